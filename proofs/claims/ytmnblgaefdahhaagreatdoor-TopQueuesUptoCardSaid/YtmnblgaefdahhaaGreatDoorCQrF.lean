/- Queues: what compares, new ones, what is put in. What is put into a queue. A queue of values. -/
import Derived.Deep.RegionHeld3
import Derived.IntWalk
import Derived.Handy
import Derived.Test.YtmnblgaefdahhaaGreatDoorCQrC
import Derived.Test.YtmnblgaefdahhaaGreatDoorCQrA
import Derived.Test.YtmnblgaefdahhaaGreatDoorCQoL
import Derived.Test.YtmnblgaefdahhaaGreatDoorCQoH
/- Queues: what compares, new ones, what is put in. -/
set_option linter.unusedVariables false
set_option linter.unusedSimpArgs false
namespace Go.Proofs.YtmnblgaefdahhaaGreatDoor
open Go.RowKit Go.Shelf
attribute [local go_sem] lt_succ_of

/-- A queue in memory. -/
def IsQ (w : World) (S : Nat → Prop) (o : Nat) (h : Option Hp) (p : Option Addr) : Prop := ∃ b q, p = some ⟨b, 0, none⟩ ∧ S b ∧ b < w.heap.size ∧ w.cell? ⟨b, 0, none⟩ = some (.int .i64 o) ∧ w.cell? ⟨b, 1, none⟩ = some (.int .i64 ((itemsO h).length : Nat)) ∧ w.cell? ⟨b, 2, none⟩ = some (.pointer q) ∧ IsO w S h q
theorem IsQ.keep {w w' : World} {S S' : Nat → Prop} (hk : Keeps w S w' S') {o : Nat} {h : Option Hp} {p : Option Addr} (hh : IsQ w S o h p) : IsQ w' S' o h p := by
  obtain ⟨b, q, e, hs, hl, h0, h1, h2, h3⟩ := hh
  have k0 := hk.cell (a := ⟨b, 0, none⟩) hs h0
  exact ⟨b, q, e, k0.1, World.block_lt_of_cell? w' _ k0.2, k0.2, (hk.cell (a := ⟨b, 1, none⟩) hs h1).2, (hk.cell (a := ⟨b, 2, none⟩) hs h2).2, h3.keep hk⟩
theorem IsQ.below {w w' : World} {S : Nat → Prop} (hk : Below w.heap.size w w') {o : Nat} {h : Option Hp} {p : Option Addr} (hh : IsQ w S o h p) : IsQ w' S o h p := hh.keep (Keeps.below hk)
set_option maxRecDepth 100000 in
theorem by1_calls (o : Nat) (ho : o < 6) (x y : V) (hrx : rightB x = true) (hry : rightB y = true) (vx vy : Value) (w : World) (S S' : Nat → Prop) (hx : IsV w S x vx) (hy : IsV w S' y vy) (hT : Lib.Utf8Tabs 1 2 w) (X Q : Nat) (hX : w.cell? ⟨X, 0, none⟩ = some (.pointer (some ⟨Q, 0, none⟩))) (hQ : w.cell? ⟨Q, 0, none⟩ = some (.int .i64 o)) :
    Calls Tryz.prog 43 #[vx, vy, .pointer (some ⟨X, 0, none⟩)] w fun e w' => e = .returned (.int .i64 (ordF o x y)) ∧ Bd w w' := by
  have hX9 := hx
  have hY9 := hy
  obtain ⟨hbx, A, ca, rfl, hca, hA⟩ := hx.eq
  obtain ⟨hby, B, cb, rfl, hcb, hB⟩ := hy.eq
  obtain ⟨w1, hw1, hB1, hsz, hTw⟩ := box2d w x y A B ca cb
  have hB2 := hB1.trans (Bd.drew w1)
  have HC := Lib.hid (ocompare_calls o ho x y hrx hry _ _ w1.drew S S' (hX9.below hB2.below) (hY9.below hB2.below) (tabs_d hT hB2))
  have hX1 := cellD hB1 hX
  have hQ1 := cellD hB1 hQ
  have hlx := World.block_lt_of_cell? w1 _ hX1
  have hlq := World.block_lt_of_cell? w1 _ hQ1
  have HTW := Lib.hid hTw
  have HXQ := Lib.hid (And.intro hX1 hQ1)
  have HB1 := Lib.hid hB1
  have hbr : Bd w1 w1.drew := Bd.drew w1
  unfold Two at hTw
  obtain ⟨a0, a1, a2, a3, b0, b1, b2, b3⟩ := hTw
  clear hx hy hT hbx hby hA hB hrx hry ho hX9 hY9 hX hQ hB2 hB1
  go_enter Tryz.func43, Tryz.ntmps43
  go_wp2_with fail
  go_region_held3 (fun w' => w'.cell? ⟨w.heap.size, 0, none⟩ = some (.int .i64 x.kind) ∧ w'.cell? ⟨w.heap.size, 1, none⟩ = some (.int .i64 x.num) ∧ w'.cell? ⟨w.heap.size, 2, none⟩ = some (.string x.text) ∧ w'.cell? ⟨w.heap.size, 3, none⟩ = some (.slice A x.items.length ca) ∧ w'.cell? ⟨w.heap.size + 1, 0, none⟩ = some (.int .i64 y.kind) ∧ w'.cell? ⟨w.heap.size + 1, 1, none⟩ = some (.int .i64 y.num) ∧ w'.cell? ⟨w.heap.size + 1, 2, none⟩ = some (.string y.text) ∧ w'.cell? ⟨w.heap.size + 1, 3, none⟩ = some (.slice B y.items.length cb) ∧ w'.cell? ⟨X, 0, none⟩ = some (.pointer (some ⟨Q, 0, none⟩)) ∧ w'.cell? ⟨Q, 0, none⟩ = some (.int .i64 o))
    (exact two_and (HTW.out.keep (by assumption)) ⟨cellD (by assumption) HXQ.out.1, cellD (by assumption) HXQ.out.2⟩)
    (first | (go_at_call 44; refine HC.out.mono ?_; rintro e w2 ⟨rfl, hb2⟩; have hbr := Bd.trans hbr hb2))
  go_wp2_with fail
  go_ret
  exact ⟨rfl, HB1.out.trans hbr⟩
theorem cell0 {w w' : World} {S : Nat → Prop} (h : Below w.heap.size w w') {a : Addr} {v : Value} (hc : w.cell? a = some v) : w'.cell? a = some v := cellB h hc
/-- What a queue compares with. -/
theorem by_cf (o : Nat) (ho : o < 6) (X Q : Nat) (w : World) (hX : w.cell? ⟨X, 0, none⟩ = some (.pointer (some ⟨Q, 0, none⟩))) (hQ : w.cell? ⟨Q, 0, none⟩ = some (.int .i64 o)) : Cf (ordF o) 43 #[.pointer (some ⟨X, 0, none⟩)] w :=
  ⟨Tryz.call43, fun w' hb x y vx vy S S' hx hy hrx hry hT => by1_calls o ho x y hrx hry vx vy w' S S' hx hy hT X Q (cellB hb hX) (cellB hb hQ)⟩
theorem by_calls (Q : Nat) (w : World) : Calls Tryz.prog 28 #[.pointer (some ⟨Q, 0, none⟩)] w fun e w' => e = .returned (.func (.func 43) #[] #[.pointer (some ⟨w.heap.size, 0, none⟩)]) ∧ w'.cell? ⟨w.heap.size, 0, none⟩ = some (.pointer (some ⟨Q, 0, none⟩)) ∧ Below w.heap.size w w' := by
  have hc := cell_of_new (heap_alloc_new w (.cells #[.pointer (some ⟨Q, 0, none⟩)] 23))
  have hb : Below w.heap.size w (w.alloc (.cells #[.pointer (some ⟨Q, 0, none⟩)] 23)) := (Below.refl _ _).alloc (Nat.le_refl _) _
  have HC := Lib.hid hc
  clear hc
  go_enter Tryz.func28, Tryz.ntmps28
  go_wp2_with fail
  go_ret
  exact ⟨rfl, HC.out, hb⟩
theorem some_calls (b : Nat) (w : World) : Calls Tryz.prog 25 #[.pointer (some ⟨b, 0, none⟩)] w fun e w' => e = .returned (.pointer (some ⟨b, 0, none⟩)) ∧ w = w' := by
  go_enter Tryz.func25, Tryz.ntmps25
  go_wp2_with fail
  go_ret
  exact ⟨rfl, rfl⟩
theorem new_good (o : Nat) (ho : o < 6) (w : World) : Calls Tryz.prog 12 #[.int .i64 o] w fun e w' => ∃ p, e = .returned (.tuple #[.pointer p, .int .i64 0]) ∧ IsQ w' (fun b => w.heap.size ≤ b) o none p ∧ Below w.heap.size w w' := by
  have h1 : ¬ ((o : Int) < 0) := by omega
  have h2 : ¬ (5 < (o : Int)) := by omega
  have hn := heap_alloc_new w (.cells #[.int .i64 o, .int .i64 0, .pointer none] 65)
  have HN := Lib.hid hn
  clear ho hn
  go_enter Tryz.func12, Tryz.ntmps12
  go_wp2_with fail
  go_ret2
  have hc : ∀ j u, [Value.int .i64 o, .int .i64 0, .pointer none][j]? = some u → (w.alloc (.cells #[.int .i64 o, .int .i64 0, .pointer none] 65)).cell? ⟨w.heap.size, j, none⟩ = some u := fun j u hu => by
    have := block_cells (c := [Value.int .i64 o, .int .i64 0, .pointer none]) HN.out j u hu
    rwa [plus0, Nat.zero_add] at this
  exact ⟨_, rfl, ⟨w.heap.size, none, rfl, Nat.le_refl _, by simp, hc 0 _ rfl, hc 1 _ rfl, hc 2 _ rfl, rfl⟩, (Below.refl _ _).alloc (Nat.le_refl _) _⟩
theorem new_bad (o : Int) (ho : o < 0 ∨ 5 < o) (w : World) : Calls Tryz.prog 12 #[.int .i64 o] w fun e w' => e = .returned (.tuple #[.pointer none, .int .i64 4]) ∧ w = w' := by
  by_cases h0 : o < 0
  · clear ho
    go_enter Tryz.func12, Tryz.ntmps12
    go_wp2_with fail
    go_ret2
    exact ⟨rfl, rfl⟩
  · have h1 : 5 < o := by omega
    clear ho
    go_enter Tryz.func12, Tryz.ntmps12
    go_wp2_with fail
    go_ret2
    exact ⟨rfl, rfl⟩
end Go.Proofs.YtmnblgaefdahhaaGreatDoor

/- What is put into a queue. -/
set_option linter.unusedVariables false
set_option linter.unusedSimpArgs false
namespace Go.Proofs.YtmnblgaefdahhaaGreatDoor
open Go.RowKit Go.Shelf
attribute [local go_sem] lt_succ_of

theorem push_bad (x : V) (vx : Value) (w : World) (S : Nat → Prop) (hx : IsV w S x vx) (hr : rightB x = false) (p : Option Addr) (hT : Lib.Utf8Tabs 1 2 w) :
    Calls Tryz.prog 13 #[.pointer p, vx] w fun e w' => e = .returned (.tuple #[.pointer none, .int .i64 3]) ∧ Below w.heap.size w w' := by
  have hX9 := hx
  obtain ⟨hbx, A, ca, rfl, hca, hA⟩ := hx.eq
  obtain ⟨w1, hw1, hB1, hsz, hb0⟩ := box1d w (.int .i64 x.kind) (.int .i64 x.num) (.string x.text) (.slice A x.items.length ca) 39
  obtain ⟨a0, a1, a2, a3⟩ := block4 hb0
  have hB2 := hB1.below
  have HC := check_calls x _ w1 S (hX9.below hB2) (tabs_below hT hB2)
  rw [if_neg (by rw [hr]; decide)] at HC
  have HC := Lib.hid HC
  clear hx hT hbx hA hX9 hr hb0 hB1
  go_enter Tryz.func13, Tryz.ntmps13
  go_wp2_with (go_at_call 24; refine HC.out.mono ?_; rintro e w2 ⟨rfl, hb2⟩)
  go_ret2
  exact ⟨rfl, below_then hB2 hB2.size hb2⟩
theorem alloc_of {w w' : World} (hb : Below w.heap.size w w') (o : Obj) : Below w.heap.size w (w'.alloc o) := hb.alloc hb.size o
theorem drew_of {w w' : World} (hb : Below w.heap.size w w') : Below w.heap.size w w'.drew := hb.drew
theorem chain_then {w w1 w2 : World} (h1 : Below w.heap.size w w1) (h2 : Below w1.heap.size w1 w2) : Below w.heap.size w w2 := below_then h1 h1.size h2
/-- What a push looks at. -/
def PQ (b X : Nat) (o n : Nat) (q : Option Addr) (x : V) (A : Option Addr) (ca : Nat) (w : World) : Prop :=
  w.cell? ⟨b, 0, none⟩ = some (.int .i64 o) ∧ w.cell? ⟨b, 1, none⟩ = some (.int .i64 n) ∧ w.cell? ⟨b, 2, none⟩ = some (.pointer q) ∧
  w.cell? ⟨X, 0, none⟩ = some (.int .i64 x.kind) ∧ w.cell? ⟨X, 1, none⟩ = some (.int .i64 x.num) ∧ w.cell? ⟨X, 2, none⟩ = some (.string x.text) ∧ w.cell? ⟨X, 3, none⟩ = some (.slice A x.items.length ca)
theorem PQ.keep {b X : Nat} {o n : Nat} {q : Option Addr} {x : V} {A : Option Addr} {ca : Nat} {w w' : World} (h : PQ b X o n q x A ca w) (hb : Below w.heap.size w w') : PQ b X o n q x A ca w' := by
  obtain ⟨h0, h1, h2, h3, h4, h5, h6⟩ := h
  exact ⟨cellB hb h0, cellB hb h1, cellB hb h2, cellB hb h3, cellB hb h4, cellB hb h5, cellB hb h6⟩
theorem heap_new {W : World} {S : Nat → Prop} (hS : S W.heap.size) {x : V} {A : Option Addr} {cap : Nat} (hv : IsV W S x (.agg #[.int .i64 x.kind, .int .i64 x.num, .string x.text, .slice A x.items.length cap])) (t : TypeId) :
    IsH (W.alloc (.cells #[.int .i64 x.kind, .int .i64 x.num, .string x.text, .slice A x.items.length cap, .pointer none] t)) S (.mk x []) (some ⟨W.heap.size, 0, none⟩) := by
  obtain ⟨hb, A', cap', e, hc, hA⟩ := hv.eq
  injection e with e
  have e2 := congrArg (fun a : Array Value => a[3]?) e
  simp at e2
  obtain ⟨rfl, rfl⟩ := e2
  exact IsH.new hb hc (hA.below ((Below.refl _ _).alloc (Nat.le_refl _) _)) IsK.nil' hS (heap_alloc_new W _)
theorem queue_new {W : World} {S : Nat → Prop} (hS : S W.heap.size) {o : Nat} {h : Option Hp} {r : Option Addr} (hr : IsO W S h r) (n : Int) (hn : n = (itemsO h).length) (t : TypeId) :
    IsQ (W.alloc (.cells #[.int .i64 o, .int .i64 n, .pointer r] t)) S o h (some ⟨W.heap.size, 0, none⟩) := by
  subst hn
  have hc : ∀ j u, [Value.int .i64 o, .int .i64 ((itemsO h).length : Nat), .pointer r][j]? = some u → (W.alloc (.cells #[.int .i64 o, .int .i64 ((itemsO h).length : Nat), .pointer r] t)).cell? ⟨W.heap.size, j, none⟩ = some u := fun j u hu => by
    have := block_cells (c := [Value.int .i64 o, .int .i64 ((itemsO h).length : Nat), .pointer r]) (heap_alloc_new W (.cells #[.int .i64 o, .int .i64 ((itemsO h).length : Nat), .pointer r] t)) j u hu
    rwa [plus0, Nat.zero_add] at this
  exact ⟨W.heap.size, r, rfl, hS, by simp, hc 0 _ rfl, hc 1 _ rfl, hc 2 _ rfl, hr.below ((Below.refl _ _).alloc (Nat.le_refl _) _)⟩
theorem meld_len (c : V → V → Int) (h : Option Hp) (x : V) : (itemsO (meldH c h (some (.mk x [])))).length = (itemsO h).length + 1 := by
  rw [(meld_perm c h (some (.mk x []))).length_eq, List.length_append]
  rfl
theorem rt_one {x : V} (hr : rightB x = true) : RtO (some (.mk x [])) := fun y hy => by
  have hy2 : y ∈ itemsH (.mk x []) := hy
  rw [itemsH, itemsHs] at hy2
  simp at hy2
  subst hy2
  exact hr
set_option maxRecDepth 100000 in
set_option maxHeartbeats 600000 in
theorem push_good (o : Nat) (ho : o < 6) (h : Option Hp) (hrt : RtO h) (hlen : (itemsO h).length < 65536) (x : V) (vx : Value) (w : World) (S S' : Nat → Prop) (hS : ∀ k, w.heap.size ≤ k → S k) (hx : IsV w S' x vx) (hr : rightB x = true) (p : Option Addr) (hq : IsQ w S o h p) (hT : Lib.Utf8Tabs 1 2 w) :
    Calls Tryz.prog 13 #[.pointer p, vx] w fun e w' => ∃ p', e = .returned (.tuple #[.pointer p', .int .i64 0]) ∧ IsQ w' S o (meldH (ordF o) h (some (.mk x []))) p' ∧ Below w.heap.size w w' := by
  have hX9 := hx
  have hQ9 := hq
  obtain ⟨hbx, A, ca, rfl, hca, hA⟩ := hx.eq
  obtain ⟨b, q, rfl, hsb, hlb, q0, q1, q2, hh⟩ := hq
  obtain ⟨w1, hw1, hB1, hsz, hb0⟩ := box1d w (.int .i64 x.kind) (.int .i64 x.num) (.string x.text) (.slice A x.items.length ca) 39
  obtain ⟨a0, a1, a2, a3⟩ := block4 hb0
  have hB2 := hB1.below
  have HC := Lib.hid (checkd_calls x _ w1 S' (hX9.below hB2) (tabs_below hT hB2) hr)
  have q0' := cellB hB2 q0
  have q1' := cellB hB2 q1
  have q2' := cellB hB2 q2
  have hlb1 := Nat.lt_of_lt_of_le hlb hB2.size
  have hne : (((itemsO h).length : Int) == 65536) = false := by rw [beq_eq_false_iff_ne]; omega
  have hsum : IntKind.i64.wrap (((itemsO h).length : Nat) + 1 : Int) = ((itemsO h).length : Nat) + 1 := IntWalk.i64_in _ (by omega)
  have hlen3 : Hid (((itemsO h).length : Int) + 1 = (itemsO (meldH (ordF o) h (some (.mk x [])))).length) := Lib.hid (by rw [meld_len]; omega)
  have HOWN := Lib.hid (fun (W : World) (hb : Below w1.heap.size w1 W) => ownq_calls x _ W S' (hX9.below (chain_then hB2 hb)))
  have HM := Lib.hid (fun (W : World) (hb : Below w1.heap.size w1 W) (k X : Nat) (hk : IsH W S (.mk x []) (some ⟨k, 0, none⟩)) (hX : W.cell? ⟨X, 0, none⟩ = some (.pointer (some ⟨b, 0, none⟩))) =>
    meld_calls (c := ordF o) h (some (.mk x [])) q (some ⟨k, 0, none⟩) _ _ W S (fun m hm => hS m (Nat.le_trans (chain_then hB2 hb).size hm)) (hh.below (chain_then hB2 hb)) hk hrt (rt_one hr) (by_cf o ho X b W hX (cellB (chain_then hB2 hb) q0)) (tabs_below hT (chain_then hB2 hb)))
  have HS1 : Hid (∀ m, w1.heap.size ≤ m → S m) := Lib.hid fun m hm => hS m (Nat.le_trans hB2.size hm)
  have HB2 := Lib.hid hB2
  clear hx hbx hA hb0 hB1 q0 q1 q2 hT hrt hr ho hQ9 hX9 hh hS hlen hB2
  go_enter Tryz.func13, Tryz.ntmps13
  go_wp2_with (first
    | (go_at_call 24; refine HC.out.mono ?_; rintro e w2 ⟨rfl, hb2'⟩; have hb2 := hb2'.below; have q0 := cellB hb2 q0'; have q1 := cellB hb2 q1'; have q2 := cellB hb2 q2'; have c0 := cellB hb2 a0; have c1 := cellB hb2 a1; have c2 := cellB hb2 a2; have c3 := cellB hb2 a3; have hlb2 := Nat.lt_of_lt_of_le hlb1 hb2.size; have hsz2 := Nat.lt_of_lt_of_le hsz hb2.size; clear hb2' q0' q1' q2' a0 a1 a2 a3)
    | (go_at_call 25; refine (some_calls _ _).mono ?_; rintro e w3 ⟨rfl, rfl⟩))
  have HPQ : Hid (PQ b w.heap.size o (itemsO h).length q x A ca w2) := Lib.hid ⟨q0, q1, q2, c0, c1, c2, c3⟩
  have hbr : Below w1.heap.size w1 w2.drew := drew_of hb2
  have hk : Below w2.heap.size w2 w2.drew := (Below.refl _ _).drew
  clear hb2
  go_region_held3 (fun w' => w'.cell? ⟨b, 0, none⟩ = some (.int .i64 o) ∧ w'.cell? ⟨b, 1, none⟩ = some (.int .i64 (itemsO h).length) ∧ w'.cell? ⟨b, 2, none⟩ = some (.pointer q) ∧
      w'.cell? ⟨w.heap.size, 0, none⟩ = some (.int .i64 x.kind) ∧ w'.cell? ⟨w.heap.size, 1, none⟩ = some (.int .i64 x.num) ∧ w'.cell? ⟨w.heap.size, 2, none⟩ = some (.string x.text) ∧ w'.cell? ⟨w.heap.size, 3, none⟩ = some (.slice A x.items.length ca))
    (first | exact HPQ.out.keep (by assumption) | exact HPQ.out.keep (alloc_of (by assumption) _))
    (first
      | (go_at_call 27; refine (HOWN.out _ hbr).mono ?_; rintro e w3 ⟨v3, rfl, hv3, hb3⟩; obtain ⟨_, A3, c3, rfl, _, _⟩ := hv3.eq; have hbr := chain_then hbr hb3; have hk := chain_then hk hb3; have HV3 : Hid (IsV w3 S x (.agg #[.int .i64 x.kind, .int .i64 x.num, .string x.text, .slice A3 x.items.length c3])) := Lib.hid (hv3.keep (Keeps.weak fun m (h : w2.drew.heap.size ≤ m) => HS1.out m (Nat.le_trans (drew_of (by assumption : Below w1.heap.size w1 w2.drew)).size h))); clear hv3 hb3)
      | (go_at_call 28; refine (by_calls _ _).mono ?_; rintro e w4 ⟨rfl, hx4, hb4⟩
         first
          | (with_reducible have hbr := chain_then (alloc_of hbr _) hb4
             with_reducible have hk := chain_then (alloc_of hk _) hb4
             rw [World.size_alloc] at hx4
             have HMM := Lib.hid (HM.out w4 hbr _ _ ((heap_new (HS1.out _ (by assumption : Below w1.heap.size w1 w3).size) HV3.out 72).below hb4) hx4))
          | (have hk := chain_then hk hb4
             have hbr := alloc_of (chain_then hbr hb4) (.cells #[.int .i64 x.kind, .int .i64 x.num, .string x.text, .slice A3 x.items.length c3, .pointer none] 72)
             have HMM := Lib.hid (HM.out _ hbr _ _ (heap_new (HS1.out _ (chain_then (by assumption : Below w1.heap.size w1 w3) hb4).size) (HV3.out.below hb4) 72) (cellB ((Below.refl _ _).alloc (Nat.le_refl _) _) hx4)))
         clear hx4 hb4)
      | (go_at_call 26; refine HMM.out.mono ?_; rintro e w5 ⟨r5, rfl, hr5, hb5⟩; have hbr := chain_then hbr hb5; first | (with_reducible have hk := chain_then hk hb5) | (have hk := chain_then (alloc_of hk _) hb5); have HR5 := Lib.hid hr5; clear hr5 hb5))
  all_goals go_wp2_with fail
  all_goals go_ret2
  all_goals exact ⟨_, rfl, queue_new (HS1.out _ (by assumption : Below w1.heap.size w1 w5).size) (by first | exact hr5 | exact HR5.out) _ hlen3.out _, alloc_of (chain_then HB2.out (by assumption)) _⟩
end Go.Proofs.YtmnblgaefdahhaaGreatDoor

/- A queue of values. -/
set_option linter.unusedVariables false
set_option linter.unusedSimpArgs false
namespace Go.Proofs.YtmnblgaefdahhaaGreatDoor
open Go.RowKit Go.Shelf
attribute [local go_sem] lt_succ_of

/-- The heap of a list. -/
def ofH (c : V → V → Int) (l : List V) : Option Hp := l.foldl (fun h x => meldH c h (some (.mk x []))) none
theorem ofH_snoc (c : V → V → Int) (l : List V) (x : V) : ofH c (l ++ [x]) = meldH c (ofH c l) (some (.mk x [])) := by
  unfold ofH
  rw [List.foldl_append]
  rfl
theorem ofH_good {c : V → V → Int} (hc : Ordr c) : ∀ (n : Nat) (l : List V), l.length = n → (itemsO (ofH c l)).Perm l ∧ OkO c (ofH c l)
  | 0, l, h => by
    obtain rfl := List.length_eq_zero_iff.1 h
    exact ⟨.refl _, trivial⟩
  | n + 1, l, h => by
    have hne : l ≠ [] := fun e => by rw [e] at h; simp at h
    have he := List.dropLast_concat_getLast hne
    obtain ⟨m, hm⟩ : ∃ m, l.dropLast = m := ⟨_, rfl⟩
    obtain ⟨x, hx⟩ : ∃ x, l.getLast hne = x := ⟨_, rfl⟩
    rw [hm, hx] at he
    obtain ⟨h1, h2⟩ := ofH_good hc n m (by rw [← he] at h; simpa using h)
    rw [← he, ofH_snoc]
    refine ⟨(meld_perm c _ _).trans (h1.append (.refl [x])), meld_ok hc h2 ?_⟩
    show OkH c (.mk x [])
    rw [okH_eq]
    exact ⟨fun y hy => (by cases hy), trivial⟩
theorem ofH_rt {c : V → V → Int} (hc : Ordr c) {l : List V} (h : ∀ x ∈ l, rightB x = true) : RtO (ofH c l) := fun x hx => h x ((ofH_good hc _ l rfl).1.mem_iff.1 hx)
theorem ofH_len {c : V → V → Int} (hc : Ordr c) (l : List V) : (itemsO (ofH c l)).length = l.length := (ofH_good hc _ l rfl).1.length_eq
theorem qof_kind (o : Int) (ho : o < 0 ∨ 5 < o) (vl : Value) (w : World) : Calls Tryz.prog 4 #[.int .i64 o, vl] w fun e w' => e = .returned (.tuple #[.pointer none, .int .i64 4]) ∧ w = w' := by
  have HC := Lib.hid (new_bad o ho w)
  clear ho
  go_enter Tryz.func4, Tryz.ntmps4
  go_wp2_with (go_at_call 12; refine HC.out.mono ?_; rintro e w1 ⟨rfl, rfl⟩)
  go_ret2
  exact ⟨rfl, rfl⟩
theorem qof_long (o : Nat) (ho : o < 6) (n : Nat) (A : Option Addr) (ca : Nat) (hlen : 65536 < n) (w : World) : Calls Tryz.prog 4 #[.int .i64 o, .slice A n ca] w fun e w' => e = .returned (.tuple #[.pointer none, .int .i64 2]) ∧ Below w.heap.size w w' := by
  have HC := Lib.hid (new_good o ho w)
  have h1 : 65536 < (n : Int) := by omega
  clear ho hlen
  go_enter Tryz.func4, Tryz.ntmps4
  go_wp2_with (go_at_call 12; refine HC.out.mono ?_; rintro e w1 ⟨p, rfl, _, hb⟩)
  go_ret2
  exact ⟨rfl, hb⟩
set_option maxRecDepth 100000 in
set_option maxHeartbeats 2000000 in
theorem qof_list (o : Nat) (ho : o < 6) (l : List V) (hlen : l.length ≤ 65536) (vl : Value) (w : World) (S : Nat → Prop) (hl : IsS w S l vl) (hT : Lib.Utf8Tabs 1 2 w) :
    Calls Tryz.prog 4 #[.int .i64 o, vl] w fun e w' => ((∃ p, e = .returned (.tuple #[.pointer p, .int .i64 0]) ∧ IsQ w' (fun b => w.heap.size ≤ b) o (ofH (ordF o) l) p ∧ ∀ x ∈ l, rightB x = true) ∨ (e = .returned (.tuple #[.pointer none, .int .i64 3]) ∧ ¬ ∀ x ∈ l, rightB x = true)) ∧ Below w.heap.size w w' := by
  obtain ⟨A, ca, rfl, hca, hla, hA⟩ := hl
  have HC := Lib.hid (new_good o ho w)
  have h1 : ¬ (65536 < (l.length : Int)) := by omega
  have HA := Lib.hid hA
  have HT := Lib.hid hT
  have HL := Lib.hid hlen
  have HO := Lib.hid ho
  clear ho hlen hA hT
  go_enter Tryz.func4, Tryz.ntmps4
  go_wp2_with (go_at_call 12; refine HC.out.mono ?_; rintro e w1 ⟨p, rfl, hq0, hb1⟩; have HQ0 := Lib.hid hq0; clear hq0)
  have HQ1 := Lib.hid (show IsQ w1 (fun b => w.heap.size ≤ b) o (ofH (ordF o) []) p from HQ0.out)
  go_loopw [6, 23] (fun vq vi wr => ∃ (i : Nat) (r : Option Addr), vq = .pointer r ∧ vi = .int .i64 i ∧ i ≤ l.length ∧ Hid (∀ x ∈ l.take i, rightB x = true) ∧ Hid (IsQ wr (fun b => w.heap.size ≤ b) o (ofH (ordF o) (l.take i)) r) ∧ Below w.heap.size w wr) (fun _ vi _ => l.length - (intOf vi).toNat)
  case atStart => exact ⟨0, p, rfl, rfl, Nat.zero_le _, Lib.hid (by intro x hx; cases hx), HQ1, hb1⟩
  case round =>
    obtain ⟨i, r, rfl, rfl, hil, hpre, hq, hb⟩ := hrel
    clear HQ0 HQ1 HC
    have hA' := HA.out.below hb
    by_cases hlt : i < l.length
    · have hz : (i : Int) < (l.length : Int) := by omega
      obtain ⟨ad, A1, cap1, rfl, hla1, hbd, f0, f1, f2, f3, hl1', hLA⟩ := hA'.at i hlt
      have hX := IsV.mk hbd hl1' hLA
      clear hA' hbd hLA
      by_cases hr : rightB (itemAt l i) = true
      · have HP2 : Hid (∀ x ∈ l.take (i + 1), rightB x = true) := Lib.hid (by
          rw [itemAt_take hlt]
          intro x hx
          rcases List.mem_append.1 hx with hx | hx
          · exact hpre.out x hx
          · simp at hx; subst hx; exact hr)
        have HK := Lib.hid (fun (w' : World) (hb' : Below wr.heap.size wr w') => push_good o HO.out (ofH (ordF o) (l.take i)) (ofH_rt (ordF_ordr o) hpre.out) (by rw [ofH_len (ordF_ordr o), List.length_take]; have := HL.out; omega) (itemAt l i) _ w' (fun b => w.heap.size ≤ b) S (fun k hk => Nat.le_trans (Nat.le_trans hb.size hb'.size) hk) (hX.below hb') hr r (hq.out.below hb') (tabs_below HT.out (chain_then hb hb')))
        rw [← ofH_snoc, ← itemAt_take hlt] at HK
        clear hr hX
        go_wp2_with (go_at_call 13; refine (HK.out _ ((Below.refl _ _).alloc (Nat.le_refl _) _)).mono ?_; rintro e w4 ⟨p4, rfl, hq4, hb4⟩; have HQ4 := Lib.hid hq4; have hbr := chain_then (alloc_of hb _) hb4; clear hq4 hb4)
        go_roundw
        case rel => exact ⟨i + 1, p4, rfl, by go_num, by omega, HP2, HQ4, hbr⟩
        case measure => simp [intOf]; omega
      · have HK := Lib.hid (fun (w' : World) (hb' : Below wr.heap.size wr w') => push_bad (itemAt l i) _ w' S (hX.below hb') (by simpa using hr) r (tabs_below HT.out (chain_then hb hb')))
        have HN : Hid (¬ ∀ x ∈ l, rightB x = true) := Lib.hid fun h => hr (h _ (itemAt_mem hlt))
        clear hr hX
        go_wp2_with (go_at_call 13; refine (HK.out _ ((Below.refl _ _).alloc (Nat.le_refl _) _)).mono ?_; rintro e w4 ⟨rfl, hb4⟩; have hbr := chain_then (alloc_of hb _) hb4; clear hb4)
        go_ret2
        exact ⟨.inr ⟨rfl, HN.out⟩, hbr⟩
    · have he : i = l.length := by omega
      have HE : Hid (IsQ wr (fun b => w.heap.size ≤ b) o (ofH (ordF o) l) r ∧ ∀ x ∈ l, rightB x = true) := Lib.hid (by
        have h1 := hq.out
        have h2 := hpre.out
        rw [he, List.take_length] at h1 h2
        exact ⟨h1, h2⟩)
      have hz : ¬ (i : Int) < (l.length : Int) := by omega
      clear hq hpre he
      go_wp2_with fail
      go_ret2
      exact ⟨.inl ⟨_, rfl, HE.out⟩, hb⟩
end Go.Proofs.YtmnblgaefdahhaaGreatDoor
