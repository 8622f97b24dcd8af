/- Pairing heaps in memory. Two heaps as one. Heaps two by two, and then all as one. -/
import Derived.Test.YtmnblgaefdahhaaGreatDoorCQpA
import Derived.Test.YtmnblgaefdahhaaGreatDoorCOg
import Derived.Test.YtmnblgaefdahhaaGreatDoorCQoF
/- Pairing heaps in memory. -/
set_option linter.unusedVariables false
set_option linter.unusedSimpArgs false
namespace Go.Proofs.YtmnblgaefdahhaaGreatDoor
open Go.RowKit

mutual
/-- A heap in memory. -/
def IsH (w : World) (S : Nat → Prop) : Hp → Option Addr → Prop
  | .mk x kids, p => ∃ b c q, p = some ⟨b, 0, none⟩ ∧ S b ∧ VC w S x c ∧ (∀ j u, c[j]? = some u → w.cell? ⟨b, j, none⟩ = some u) ∧ w.cell? ⟨b, 4, none⟩ = some (.pointer q) ∧ IsK w S kids q
/-- A list of heaps in memory. -/
def IsK (w : World) (S : Nat → Prop) : List Hp → Option Addr → Prop
  | [], q => q = none
  | h :: t, q => ∃ b p r, q = some ⟨b, 0, none⟩ ∧ S b ∧ w.cell? ⟨b, 0, none⟩ = some (.pointer p) ∧ w.cell? ⟨b, 1, none⟩ = some (.pointer r) ∧ IsH w S h p ∧ IsK w S t r
end
mutual
theorem IsH.keep {w w' : World} {S S' : Nat → Prop} (hk : Keeps w S w' S') : ∀ {h : Hp} {p : Option Addr}, IsH w S h p → IsH w' S' h p
  | .mk x kids, p, h => by
    rw [IsH] at h ⊢
    obtain ⟨b, c, q, e, hs, hv, hc, h4, hq⟩ := h
    exact ⟨b, c, q, e, (hk.cell (a := ⟨b, 4, none⟩) hs h4).1, hv.keep hk, fun j u hu => (hk.cell (a := ⟨b, j, none⟩) hs (hc j u hu)).2, (hk.cell (a := ⟨b, 4, none⟩) hs h4).2, IsK.keep hk hq⟩
theorem IsK.keep {w w' : World} {S S' : Nat → Prop} (hk : Keeps w S w' S') : ∀ {l : List Hp} {p : Option Addr}, IsK w S l p → IsK w' S' l p
  | [], p, h => by rw [IsK] at h ⊢; exact h
  | x :: l, p, h => by
    rw [IsK] at h ⊢
    obtain ⟨b, p1, r, e, hs, h0, h1, h2, h3⟩ := h
    exact ⟨b, p1, r, e, (hk.cell (a := ⟨b, 0, none⟩) hs h0).1, (hk.cell (a := ⟨b, 0, none⟩) hs h0).2, (hk.cell (a := ⟨b, 1, none⟩) hs h1).2, IsH.keep hk h2, IsK.keep hk h3⟩
end
/-- A heap or none. -/
def IsO (w : World) (S : Nat → Prop) : Option Hp → Option Addr → Prop
  | none, p => p = none
  | some h, p => IsH w S h p
theorem IsO.keep {w w' : World} {S S' : Nat → Prop} (hk : Keeps w S w' S') {h : Option Hp} {p : Option Addr} (hh : IsO w S h p) : IsO w' S' h p := by
  cases h with
  | none => exact hh
  | some h => exact IsH.keep hk hh
theorem IsH.below {w w' : World} {S : Nat → Prop} (hk : Below w.heap.size w w') {h : Hp} {p : Option Addr} (hh : IsH w S h p) : IsH w' S h p := hh.keep (Keeps.below hk)
theorem IsK.below {w w' : World} {S : Nat → Prop} (hk : Below w.heap.size w w') {h : List Hp} {p : Option Addr} (hh : IsK w S h p) : IsK w' S h p := hh.keep (Keeps.below hk)
theorem IsO.below {w w' : World} {S : Nat → Prop} (hk : Below w.heap.size w w') {h : Option Hp} {p : Option Addr} (hh : IsO w S h p) : IsO w' S h p := hh.keep (Keeps.below hk)
/-- What the walk wants of a heap. -/
theorem IsH.eq {w : World} {S : Nat → Prop} {h : Hp} {p : Option Addr} (hh : IsH w S h p) : ∃ b A cap q, p = some ⟨b, 0, none⟩ ∧ S b ∧ b < w.heap.size ∧ V.Bd h.x ∧ w.cell? ⟨b, 0, none⟩ = some (.int .i64 h.x.kind) ∧ w.cell? ⟨b, 1, none⟩ = some (.int .i64 h.x.num) ∧
    w.cell? ⟨b, 2, none⟩ = some (.string h.x.text) ∧ w.cell? ⟨b, 3, none⟩ = some (.slice A h.x.items.length cap) ∧ h.x.items.length ≤ cap ∧ LA w S h.x.items A ∧ w.cell? ⟨b, 4, none⟩ = some (.pointer q) ∧ IsK w S h.kids q := by
  cases h with
  | mk x kids =>
    rw [IsH] at hh
    obtain ⟨b, c, q, e, hs, hv, hc, h4, hq⟩ := hh
    obtain ⟨hb, A, cap, rfl, h1, h2⟩ := hv.eq
    exact ⟨b, A, cap, q, e, hs, World.block_lt_of_cell? w _ h4, hb, hc 0 _ rfl, hc 1 _ rfl, hc 2 _ rfl, hc 3 _ rfl, h1, h2, h4, hq⟩
/-- A heap in a block that has just been made. -/
theorem IsH.new {w : World} {S : Nat → Prop} {x : V} {A : Option Addr} {cap : Nat} {q : Option Addr} {kids : List Hp} {b : Nat} {t : TypeId} {fz : Nat × Nat} (hb : V.Bd x) (hc : x.items.length ≤ cap) (hA : LA w S x.items A) (hk : IsK w S kids q) (hS : S b)
    (hblk : w.heap[b]? = some (.cells #[.int .i64 x.kind, .int .i64 x.num, .string x.text, .slice A x.items.length cap, .pointer q] t fz)) : IsH w S (.mk x kids) (some ⟨b, 0, none⟩) := by
  rw [IsH]
  have hcell : ∀ j u, [Value.int .i64 x.kind, .int .i64 x.num, .string x.text, .slice A x.items.length cap, .pointer q][j]? = some u → w.cell? ⟨b, j, none⟩ = some u := fun j u hu => by
    have := block_cells (c := [Value.int .i64 x.kind, .int .i64 x.num, .string x.text, .slice A x.items.length cap, .pointer q]) hblk j u hu
    rwa [plus0, Nat.zero_add] at this
  refine ⟨b, _, q, rfl, hS, VC.mk hb hc hA, fun j u hu => hcell j u ?_, hcell 4 _ rfl, hk⟩
  have hj : j < 4 := (List.getElem?_eq_some_iff.1 hu).1
  have : j = 0 ∨ j = 1 ∨ j = 2 ∨ j = 3 := by omega
  rcases this with rfl | rfl | rfl | rfl <;> exact hu
theorem IsK.new {w : World} {S : Nat → Prop} {h : Hp} {l : List Hp} {p r : Option Addr} {b : Nat} {t : TypeId} {fz : Nat × Nat} (hh : IsH w S h p) (hl : IsK w S l r) (hS : S b)
    (hblk : w.heap[b]? = some (.cells #[.pointer p, .pointer r] t fz)) : IsK w S (h :: l) (some ⟨b, 0, none⟩) := by
  rw [IsK]
  have hcell : ∀ j u, [Value.pointer p, .pointer r][j]? = some u → w.cell? ⟨b, j, none⟩ = some u := fun j u hu => by
    have := block_cells (c := [Value.pointer p, .pointer r]) hblk j u hu
    rwa [plus0, Nat.zero_add] at this
  exact ⟨b, p, r, rfl, hS, hcell 0 _ rfl, hcell 1 _ rfl, hh, hl⟩
theorem IsK.eq {w : World} {S : Nat → Prop} {h : Hp} {l : List Hp} {q : Option Addr} (hh : IsK w S (h :: l) q) : ∃ b p r, q = some ⟨b, 0, none⟩ ∧ S b ∧ b < w.heap.size ∧ w.cell? ⟨b, 0, none⟩ = some (.pointer p) ∧ w.cell? ⟨b, 1, none⟩ = some (.pointer r) ∧ IsH w S h p ∧ IsK w S l r := by
  rw [IsK] at hh
  obtain ⟨b, p, r, e, hs, h0, h1, h2, h3⟩ := hh
  exact ⟨b, p, r, e, hs, World.block_lt_of_cell? w _ h0, h0, h1, h2, h3⟩
theorem IsK.nil {w : World} {S : Nat → Prop} {q : Option Addr} (hh : IsK w S [] q) : q = none := by rwa [IsK] at hh
theorem IsK.nil' {w : World} {S : Nat → Prop} : IsK w S [] none := by rw [IsK]
/-- Right items. -/
def RtH (h : Hp) : Prop := ∀ x ∈ itemsH h, rightB x = true
def RtO (h : Option Hp) : Prop := ∀ x ∈ itemsO h, rightB x = true
theorem rtH_x {h : Hp} (hh : RtH h) : rightB h.x = true := hh _ (by rw [itemsH_eq]; exact List.mem_cons_self)
theorem rtO_meld {c : V → V → Int} {a b : Option Hp} (ha : RtO a) (hb : RtO b) : RtO (meldH c a b) := fun x hx => by
  rcases List.mem_append.1 ((meld_perm c a b).mem_iff.1 hx) with h | h
  · exact ha x h
  · exact hb x h
end Go.Proofs.YtmnblgaefdahhaaGreatDoor

/- Two heaps as one. -/
set_option linter.unusedVariables false
set_option linter.unusedSimpArgs false
namespace Go.Proofs.YtmnblgaefdahhaaGreatDoor
open Go.RowKit Go.Shelf
attribute [local go_sem] lt_succ_of

/-- A function value that compares by an order, here and wherever the world has but grown. -/
structure Cf (c : V → V → Int) (g : Nat) (cb : Array Value) (w : World) : Prop where
  eg : ∀ args w, (callFunc g args).run Tryz.prog w = .ok (.enter g args) w
  hat : ∀ w', Below w.heap.size w w' → CmprAt c g cb w'
theorem Cf.below {c : V → V → Int} {g : Nat} {cb : Array Value} {w w' : World} (h : Cf c g cb w) (hb : Below w.heap.size w w') : Cf c g cb w' := ⟨h.eg, fun w'' hb' => h.hat w'' (below_then hb hb.size hb')⟩
theorem meld_new {w2 : World} {S : Nat → Prop} {x : V} {A : Option Addr} {cap : Nat} {q p : Option Addr} {k : Hp} {kids : List Hp} {t1 t2 : TypeId} (hS : ∀ k, w2.heap.size ≤ k → S k) (hb : V.Bd x) (hc : x.items.length ≤ cap) (hA : LA w2 S x.items A) (hk : IsH w2 S k p) (hq : IsK w2 S kids q) :
    IsO ((w2.alloc (.cells #[.pointer p, .pointer q] t1)).alloc (.cells #[.int .i64 x.kind, .int .i64 x.num, .string x.text, .slice A x.items.length cap, .pointer (some ⟨w2.heap.size, 0, none⟩)] t2)).drew S (some (.mk x (k :: kids))) (some ⟨w2.heap.size + 1, 0, none⟩) ∧
    Below w2.heap.size w2 ((w2.alloc (.cells #[.pointer p, .pointer q] t1)).alloc (.cells #[.int .i64 x.kind, .int .i64 x.num, .string x.text, .slice A x.items.length cap, .pointer (some ⟨w2.heap.size, 0, none⟩)] t2)).drew := by
  have h1 : Below w2.heap.size w2 (w2.alloc (.cells #[.pointer p, .pointer q] t1)) := (Below.refl _ _).alloc (Nat.le_refl _) _
  have h2 : Below (w2.alloc (.cells #[.pointer p, .pointer q] t1)).heap.size (w2.alloc (.cells #[.pointer p, .pointer q] t1)) ((w2.alloc (.cells #[.pointer p, .pointer q] t1)).alloc (.cells #[.int .i64 x.kind, .int .i64 x.num, .string x.text, .slice A x.items.length cap, .pointer (some ⟨w2.heap.size, 0, none⟩)] t2)).drew := ((Below.refl _ _).alloc (Nat.le_refl _) _).drew
  have h3 := below_then h1 h1.size h2
  have b1 := blockB h2 (heap_alloc_new w2 (.cells #[.pointer p, .pointer q] t1))
  have b2 := heap_alloc_new (w2.alloc (.cells #[.pointer p, .pointer q] t1)) (.cells #[.int .i64 x.kind, .int .i64 x.num, .string x.text, .slice A x.items.length cap, .pointer (some ⟨w2.heap.size, 0, none⟩)] t2)
  rw [World.size_alloc] at b2
  exact ⟨IsH.new hb hc (hA.below h3) (IsK.new (hk.below h3) (hq.below h3) (hS _ (Nat.le_refl _)) b1) (hS _ (Nat.le_succ _)) b2, h3⟩
set_option maxRecDepth 100000 in
set_option maxHeartbeats 2000000 in
theorem meld_calls {c : V → V → Int} (a b : Option Hp) (p q : Option Addr) (g : Nat) (cb : Array Value) (w : World) (S : Nat → Prop) (hS : ∀ k, w.heap.size ≤ k → S k) (ha : IsO w S a p) (hb : IsO w S b q) (hra : RtO a) (hrb : RtO b) (hC : Cf c g cb w) (hT : Lib.Utf8Tabs 1 2 w) :
    Calls Tryz.prog 26 #[.pointer p, .pointer q, .func (.func g) #[] cb] w fun e w' => ∃ r, e = .returned (.pointer r) ∧ IsO w' S (meldH c a b) r ∧ Below w.heap.size w w' := by
  cases a with
  | none =>
    obtain rfl : p = none := ha
    go_enter Tryz.func26, Tryz.ntmps26
    go_wp2_with fail
    go_ret
    exact ⟨_, rfl, hb, Below.refl _ _⟩
  | some a =>
    cases b with
    | none =>
      obtain rfl : q = none := hb
      have ha2 : IsH w S a p := ha
      obtain ⟨ba, Aa, capa, qa, rfl, _⟩ := ha2.eq
      have HA := Lib.hid ha
      clear ha
      go_enter Tryz.func26, Tryz.ntmps26
      go_wp2_with fail
      go_ret
      exact ⟨_, rfl, HA.out, Below.refl _ _⟩
    | some b =>
      have ha2 : IsH w S a p := ha
      have hb2 : IsH w S b q := hb
      obtain ⟨ba, Aa, capa, qa, rfl, hsa, hla, hbda, a0, a1, a2, a3, hca, hLa, a4, hka⟩ := ha2.eq
      obtain ⟨bb, Ab, capb, qb, rfl, hsb, hlb, hbdb, b0, b1, b2, b3, hcb, hLb, b4, hkb⟩ := hb2.eq
      have eg := hC.eg
      have hbd1 : Below w.heap.size w w.drew := (Below.refl _ _).drew
      have HK := Lib.hid (hC.hat w.drew hbd1 b.x a.x _ _ S S ((IsV.mk hbdb hcb hLb).below hbd1) ((IsV.mk hbda hca hLa).below hbd1) (rtH_x hrb) (rtH_x hra) (tabs_below hT hbd1))
      have HH := Lib.hid (And.intro ha2 hb2)
      have HL := Lib.hid (And.intro (And.intro hbda hLa) (And.intro hbdb hLb))
      have HKK := Lib.hid (And.intro hka hkb)
      have HS := Lib.hid hS
      have hB1 := Lib.hid hbd1
      clear ha hb ha2 hb2 hra hrb hC hT hbda hbdb hLa hLb hka hkb hS hbd1
      by_cases hlt : c b.x a.x < 0
      · have hd : decide (c b.x a.x < 0) = true := decide_eq_true hlt
        have HE : Hid (meldH c (some a) (some b) = some (.mk b.x (a :: b.kids))) := Lib.hid (by rw [meld_some, if_pos hlt])
        clear hlt
        go_enter Tryz.func26, Tryz.ntmps26
        go_wp2_with fail
        go_still_tail 9, (by kernel_rfl)
        go_wp2_with fail
        refine HK.out.mono ?_
        rintro e w2 ⟨rfl, hb2⟩
        have hB2 := Lib.hid (below_then hB1.out hB1.out.size hb2.below)
        have a0' := cellB hB2.out a0
        have a1' := cellB hB2.out a1
        have a2' := cellB hB2.out a2
        have a3' := cellB hB2.out a3
        have a4' := cellB hB2.out a4
        have b0' := cellB hB2.out b0
        have b1' := cellB hB2.out b1
        have b2' := cellB hB2.out b2
        have b3' := cellB hB2.out b3
        have b4' := cellB hB2.out b4
        have hla' := Nat.lt_of_lt_of_le hla hB2.out.size
        have hlb' := Nat.lt_of_lt_of_le hlb hB2.out.size
        clear a0 a1 a2 a3 a4 b0 b1 b2 b3 b4 hb2
        go_wp2_with fail
        go_region
        go_wp2_with fail
        go_ret
        have hS2 : ∀ k, w2.heap.size ≤ k → S k := fun k hk => HS.out k (Nat.le_trans hB2.out.size hk)
        rw [HE.out]
        obtain ⟨h5, h6⟩ := meld_new (t1 := 93) (t2 := 72) hS2 HL.out.2.1 hcb (HL.out.2.2.below hB2.out) (HH.out.1.below hB2.out) (HKK.out.2.below hB2.out)
        exact ⟨_, rfl, h5, below_then hB2.out hB2.out.size h6⟩
      · have hd : decide (c b.x a.x < 0) = false := decide_eq_false hlt
        have HE : Hid (meldH c (some a) (some b) = some (.mk a.x (b :: a.kids))) := Lib.hid (by rw [meld_some, if_neg hlt])
        clear hlt
        go_enter Tryz.func26, Tryz.ntmps26
        go_wp2_with fail
        go_still_tail 9, (by kernel_rfl)
        go_wp2_with fail
        refine HK.out.mono ?_
        rintro e w2 ⟨rfl, hb2⟩
        have hB2 := Lib.hid (below_then hB1.out hB1.out.size hb2.below)
        have a0' := cellB hB2.out a0
        have a1' := cellB hB2.out a1
        have a2' := cellB hB2.out a2
        have a3' := cellB hB2.out a3
        have a4' := cellB hB2.out a4
        have b0' := cellB hB2.out b0
        have b1' := cellB hB2.out b1
        have b2' := cellB hB2.out b2
        have b3' := cellB hB2.out b3
        have b4' := cellB hB2.out b4
        have hla' := Nat.lt_of_lt_of_le hla hB2.out.size
        have hlb' := Nat.lt_of_lt_of_le hlb hB2.out.size
        clear a0 a1 a2 a3 a4 b0 b1 b2 b3 b4 hb2
        go_wp2_with fail
        go_region
        go_wp2_with fail
        go_ret
        have hS2 : ∀ k, w2.heap.size ≤ k → S k := fun k hk => HS.out k (Nat.le_trans hB2.out.size hk)
        rw [HE.out]
        obtain ⟨h5, h6⟩ := meld_new (t1 := 93) (t2 := 72) hS2 HL.out.1.1 hca (HL.out.1.2.below hB2.out) (HH.out.2.below hB2.out) (HKK.out.1.below hB2.out)
        exact ⟨_, rfl, h5, below_then hB2.out hB2.out.size h6⟩
end Go.Proofs.YtmnblgaefdahhaaGreatDoor

/- Heaps two by two, and then all as one. -/
set_option linter.unusedVariables false
set_option linter.unusedSimpArgs false
namespace Go.Proofs.YtmnblgaefdahhaaGreatDoor
open Go.RowKit Go.Shelf
attribute [local go_sem] lt_succ_of

def sliceLen : Value → Nat
  | .slice _ n _ => n
  | _ => 0
theorem infoHp : (Tryz.prog.info? 63).map (fun i => (i.zero, i.size, i.bytes)) = some (some (.pointer none), 1, 8) := by kernel_rfl
def eltH : Elt (Option Hp) 1 := eltPtr IsO (fun hk => fun hh => IsO.keep hk hh)
def RtK (l : List Hp) : Prop := ∀ x ∈ itemsHs l, rightB x = true
theorem rtK_head {h : Hp} {t : List Hp} (hl : RtK (h :: t)) : RtH h := fun x hx => hl x (by rw [itemsHs]; exact List.mem_append_left _ hx)
theorem rtK_tail {h : Hp} {t : List Hp} (hl : RtK (h :: t)) : RtK t := fun x hx => hl x (by rw [itemsHs]; exact List.mem_append_right _ hx)
theorem rtK_two {c : V → V → Int} : ∀ {l : List Hp}, RtK l → ∀ h ∈ twoH c l, RtO h
  | [], _, h, hh => by cases hh
  | [a], ho, h, hh => by
    rcases List.mem_cons.1 hh with rfl | hh
    · exact rtK_head ho
    · cases hh
  | a :: b :: t, ho, h, hh => by
    rcases List.mem_cons.1 hh with rfl | hh
    · exact rtO_meld (a := some a) (b := some b) (rtK_head ho) (rtK_head (rtK_tail ho))
    · exact rtK_two (rtK_tail (rtK_tail ho)) h hh
theorem rtO_back {c : V → V → Int} : ∀ {l : List (Option Hp)}, (∀ h ∈ l, RtO h) → RtO (backH c l)
  | [], _ => fun x hx => by cases hx
  | h :: t, ho => rtO_meld (ho h List.mem_cons_self) (rtO_back fun x hx => ho x (List.mem_cons_of_mem _ hx))
theorem two_pos (c : V → V → Int) (h : Hp) (t : List Hp) : 0 < (twoH c (h :: t)).length := by
  cases t with
  | nil => exact Nat.zero_lt_one
  | cons _ _ => exact Nat.succ_pos _
set_option maxRecDepth 100000 in
set_option maxHeartbeats 4000000 in
theorem paired_calls {c : V → V → Int} (l : List Hp) (q : Option Addr) (g : Nat) (cb : Array Value) (w : World) (S : Nat → Prop) (hS : ∀ k, w.heap.size ≤ k → S k) (hl : IsK w S l q) (hr : RtK l) (hC : Cf c g cb w) (hT : Lib.Utf8Tabs 1 2 w) (hlen : (twoH c l).length ≤ 4294967296) :
    Calls Tryz.prog 38 #[.pointer q, .func (.func g) #[] cb] w fun e w' => ∃ r, e = .returned (.pointer r) ∧ IsO w' S (pairedH c l) r ∧ Below w.heap.size w w' := by
  have hl0 : IsK w (fun b => S b ∧ b < w.heap.size) l q := hl.keep fun b hb hs => ⟨⟨hs, hb⟩, rfl⟩
  have HL := Lib.hid hlen
  have HS := Lib.hid hS
  have HC := Lib.hid hC
  have HT := Lib.hid hT
  have HR := Lib.hid hr
  clear hl hlen hS hC hT hr
  obtain ⟨N, hN⟩ : ∃ N, (twoH c l).length = N := ⟨_, rfl⟩
  have HN := Lib.hid hN
  clear hN
  go_enter Tryz.func38, Tryz.ntmps38
  go_wp2_with fail
  go_loopw [0, 5] (fun vl vt wr => ∃ (t : List Hp) (done : List (Option Hp)) (r : Option Addr), vl = .pointer r ∧ Hid (done ++ twoH c t = twoH c l) ∧ Hid (RtK t) ∧ Hid (IsK wr (fun b => S b ∧ b < w.heap.size) t r) ∧ Hid (OwnG eltH 63 wr w.heap.size S done vt) ∧ Below w.heap.size w wr) (fun _ vt _ => N - sliceLen vt)
  case atStart => exact ⟨l, [], q, rfl, Lib.hid rfl, HR, Lib.hid hl0, Lib.hid (OwnG.nil _ _ _ _ _), Below.refl _ _⟩
  case round =>
    obtain ⟨t, done, r, rfl, hdt, hrt, hk, hO, hb⟩ := hrel
    obtain ⟨A, cap, hA, hcap⟩ := hO.out.form
    subst hA
    clear hl0
    cases t with
    | nil =>
      obtain rfl := hk.out.nil
      have hdl : done = twoH c l := by have := hdt.out; rwa [show twoH c [] = [] from rfl, List.append_nil] at this
      have hlenN : (done.length : Int) ≤ 4294967296 := by rw [hdl]; have := HL.out; omega
      have HRT : Hid (∀ h ∈ twoH c l, RtO h) := Lib.hid (rtK_two HR.out)
      have HPA : Hid (backH c (twoH c l) = pairedH c l) := Lib.hid rfl
      clear hdt hk hrt
      subst hdl
      rename World => wz
      have hsz := Lib.hid hb.size
      have HC2 := Lib.hid (HC.out.below hb)
      have HT2 := Lib.hid (tabs_below HT.out hb)
      obtain ⟨D, hD⟩ : ∃ D, twoH c l = D := ⟨_, rfl⟩
      rw [hD] at hlenN hO hcap HRT HPA ⊢
      clear hD HN HL HC HT HR
      go_wp2_with fail
      go_loopw [7, 8] (fun vo vi w2 => ∃ (j : Nat) (r : Option Addr), vo = .pointer r ∧ vi = .int .i64 ((j : Int) - 1) ∧ j ≤ D.length ∧ Hid (IsO w2 S (backH c (D.drop j)) r) ∧ Below wz.heap.size wz w2) (fun _ vi _ => (intOf vi + 1).toNat)
      case atStart => exact ⟨D.length, none, rfl, by go_num, Nat.le_refl _, Lib.hid (by rw [List.drop_length]; rfl), Below.refl _ _⟩
      case round =>
        obtain ⟨j, r2, rfl, rfl, hjl, hr2, hb2⟩ := hrel
        cases j with
        | zero =>
          have HE : Hid (IsO wr S (pairedH c l) r2) := Lib.hid (by rw [← HPA.out]; exact hr2.out)
          have hb3 := below_then hb hsz.out hb2
          have e0 : ((0 : Nat) : Int) - 1 = -1 := rfl
          rw [e0]
          clear hr2
          go_wp2_with fail
          go_ret
          exact ⟨_, rfl, HE.out, hb3⟩
        | succ k =>
          have e0 : ((k + 1 : Nat) : Int) - 1 = (k : Int) := by omega
          rw [e0]
          obtain ⟨x, hx⟩ : ∃ x, D[k]? = some x := ⟨_, List.getElem?_eq_getElem hjl⟩
          obtain ⟨g5, cap5, a5, hsl, hcap5, hg5, hg6, ⟨p5, rfl, hp5⟩, hcell⟩ := (hO.out.below hb2).at k x hx
          obtain ⟨rfl, rfl⟩ : A = some ⟨g5, 0, none⟩ ∧ cap = cap5 := by injection hsl with h1 h2 h3; exact ⟨h1, h3⟩
          have hpc : wr.cell? ⟨g5, k, none⟩ = some (.pointer p5) := by have := hcell 0 _ rfl; rwa [Nat.mul_one, Nat.add_zero] at this
          have hpl := plus0 g5
          have hkl : (k : Int) < (D.length : Int) := by omega
          have HM := Lib.hid (meld_calls (c := c) x (backH c (D.drop (k + 1))) p5 r2 g cb wr S (fun m hm => HS.out m (Nat.le_trans hsz.out (Nat.le_trans hb2.size hm))) (IsO.keep (Keeps.weak fun b h => h.1) hp5) hr2.out (HRT.out x (List.mem_of_getElem? hx)) (rtO_back fun y hy => HRT.out y (List.mem_of_mem_drop hy)) (HC2.out.below hb2) (tabs_below HT2.out hb2))
          have hdr : Hid (meldH c x (backH c (D.drop (k + 1))) = backH c (D.drop k)) := Lib.hid (by
            rw [List.drop_eq_getElem_cons hjl, backH]
            congr 1
            rw [List.getElem?_eq_getElem hjl] at hx
            exact (Option.some.inj hx).symm)
          rw [hdr.out] at HM
          have HX := Lib.hid hx
          clear hcell hsl hp5 hr2 hx e0
          go_wp2_with (go_at_call 26; refine HM.out.mono ?_; rintro e w3 ⟨r5, rfl, hr5, hb5⟩; have HR5 := Lib.hid hr5; have hb6 := below_then hb2 hb2.size hb5; clear hr5 hb5)
          go_roundw
          case rel => exact ⟨k, r5, rfl, by go_num, by omega, HR5, hb6⟩
          case measure => simp [intOf]
    | cons h t =>
      obtain ⟨kb, p1, r1, rfl, hs1, hl1, c0, c1, hh1, hk1⟩ := hk.out.eq
      have hown := Lib.hid hO.out.own_lt
      have hsz := Lib.hid hb.size
      have hlN : done.length < N := by have h1 := congrArg List.length hdt.out; rw [HN.out, List.length_append] at h1; have h3 := two_pos c h t; omega
      have hlD : Hid (done.length ≤ 4294967296) := Lib.hid (by have := HL.out; rw [HN.out] at this; omega)
      cases t with
      | nil =>
        obtain rfl := hk1.nil
        have HE : Hid (eltH.E wr (fun b => S b ∧ some b ≠ (Value.slice A done.length cap).ownBlock) (some h) [.pointer p1]) := Lib.hid ⟨p1, rfl, IsH.keep (Keeps.weak fun b (hb : S b ∧ b < w.heap.size) => ⟨hb.1, fun e => by have := (hown.out b e.symm).1; omega⟩) hh1⟩
        have HD2 : Hid ((done ++ [some h]) ++ twoH c [] = twoH c l) := Lib.hid (by rw [← hdt.out]; simp [twoH])
        have HR2 : Hid (RtK []) := Lib.hid (fun x hx => by cases hx)
        have HK2 : Hid (IsK w (fun b => S b ∧ b < w.heap.size) [] none) := Lib.hid IsK.nil'
        clear hk hh1 hk1 hdt hrt
        go_wp2_with (at_builtin; refine append_oneG eltH 63 107 infoHp Tryz.underlying107 rfl (by decide) (by decide) w.heap.size S rfl _ _ rfl (.slice A done.length cap) done (some h) _ rfl rfl hO.out HE.out hsz.out hlD.out ?_; intro v1 w2 hO2 hg2; have hb2 := Below.grown hb hg2 hsz.out (fun k e => (hown.out k e).1); have HO2 := Lib.hid hO2; obtain ⟨A2, cap2, hv1, hc2⟩ := hO2.form; rw [List.length_append, List.length_singleton] at hv1; clear hO2; subst hv1)
        go_roundw
        case rel => exact ⟨[], done ++ [some h], none, rfl, HD2, HR2, Lib.hid IsK.nil', HO2, hb2⟩
        case measure => simp [sliceLen]; omega
      | cons h2 t =>
        obtain ⟨kb2, p2, r2, rfl, hs2, hl2, d0, d1, hh2, hk2⟩ := hk1.eq
        have hSm : ∀ k, wr.heap.size ≤ k → (fun b => S b ∧ some b ≠ (Value.slice A done.length cap).ownBlock) k := fun k hk => ⟨HS.out k (Nat.le_trans hsz.out hk), fun e => by have := (hown.out k e.symm).2; omega⟩
        have hkeep : Keeps wr (fun b => S b ∧ b < w.heap.size) wr (fun b => S b ∧ some b ≠ (Value.slice A done.length cap).ownBlock) := Keeps.weak fun b (hb : S b ∧ b < w.heap.size) => ⟨hb.1, fun e => by have := (hown.out b e.symm).1; omega⟩
        have HM := Lib.hid (meld_calls (c := c) (some h) (some h2) p1 p2 g cb wr _ hSm (hh1.keep hkeep) (hh2.keep hkeep) (rtK_head hrt.out) (rtK_head (rtK_tail hrt.out)) (HC.out.below hb) (tabs_below HT.out hb))
        have HD2 : Hid ((done ++ [meldH c (some h) (some h2)]) ++ twoH c t = twoH c l) := Lib.hid (by rw [← hdt.out]; simp [twoH])
        have HR2 : Hid (RtK t) := Lib.hid (rtK_tail (rtK_tail hrt.out))
        have HK2 := Lib.hid hk2
        clear hk hh1 hk1 hdt hrt hh2 hk2 hSm hkeep
        go_wp2_with (first
          | (go_at_call 26; refine HM.out.mono ?_; rintro e w2 ⟨r5, rfl, hr5, hb2⟩; have d1' := cellB hb2 d1; have hl2' := Nat.lt_of_lt_of_le hl2 hb2.size; have HE : Hid (eltH.E w2 (fun b => S b ∧ some b ≠ (Value.slice A done.length cap).ownBlock) (meldH c (some h) (some h2)) [.pointer r5]) := Lib.hid ⟨r5, rfl, hr5⟩; have HO1 := Lib.hid (hO.out.below hb2); have hbr2 := Lib.hid (below_then hb hsz.out hb2); have HK3 := Lib.hid (HK2.out.below hb2); clear hr5 hb2)
          | (at_builtin; refine append_oneG eltH 63 107 infoHp Tryz.underlying107 rfl (by decide) (by decide) w.heap.size S rfl _ _ rfl (.slice A done.length cap) done (meldH c (some h) (some h2)) _ rfl rfl HO1.out HE.out hbr2.out.size hlD.out ?_; intro v1 w3 hO2 hg2; have hb3 := Below.grown hbr2.out hg2 hbr2.out.size (fun k e => (hown.out k e).1); have HO2 := Lib.hid hO2; obtain ⟨A2, cap2, hv1, hc2⟩ := hO2.form; rw [List.length_append, List.length_singleton] at hv1; have HK4 := Lib.hid (HK3.out.keep (S' := fun b => S b ∧ b < w.heap.size) (Keeps.grown hg2 (fun k e (h5 : S k ∧ k < w.heap.size) => by have := (hown.out k e).1; omega))); clear hO2; subst hv1))
        go_roundw
        case rel => exact ⟨t, done ++ [meldH c (some h) (some h2)], r2, rfl, HD2, HR2, HK4, HO2, hb3⟩
        case measure => simp [sliceLen]; omega
end Go.Proofs.YtmnblgaefdahhaaGreatDoor
