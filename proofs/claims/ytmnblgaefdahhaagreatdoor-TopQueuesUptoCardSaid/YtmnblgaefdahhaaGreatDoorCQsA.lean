/- Red-black trees in memory. -/
import Derived.Deep.RegionHeld3
import Derived.StillTailTactics
import Derived.Test.YtmnblgaefdahhaaGreatDoorCQpA
import Derived.Test.YtmnblgaefdahhaaGreatDoorCOg
import Derived.Test.YtmnblgaefdahhaaGreatDoorCQoF

set_option linter.unusedVariables false
set_option linter.unusedSimpArgs false
namespace Go.Proofs.YtmnblgaefdahhaaGreatDoor
open Go.RowKit Go.Shelf
attribute [local go_sem] lt_succ_of

/-- The eleven cells of a node. -/
def nodeC (red : Bool) (pl pr : Option Addr) (ck cv : List Value) : List Value := [.bool red, .pointer pl, .pointer pr] ++ ck ++ cv
/-- A tree in memory. -/
def IsN (w : World) (S : Nat → Prop) : Nd → Option Addr → Prop
  | .nil, p => p = none
  | .mk red l r k v, p => ∃ b ck cv pl pr, p = some ⟨b, 0, none⟩ ∧ S b ∧ VC w S k ck ∧ VC w S v cv ∧ (∀ j u, (nodeC red pl pr ck cv)[j]? = some u → w.cell? ⟨b, j, none⟩ = some u) ∧ IsN w S l pl ∧ IsN w S r pr
theorem IsN.keep {w w' : World} {S S' : Nat → Prop} (hk : Keeps w S w' S') : ∀ {t : Nd} {p : Option Addr}, IsN w S t p → IsN w' S' t p
  | .nil, p, h => h
  | .mk red l r k v, p, h => by
    obtain ⟨b, ck, cv, pl, pr, e, hs, hk1, hv1, hc, hl, hr⟩ := h
    exact ⟨b, ck, cv, pl, pr, e, (hk.cell (a := ⟨b, 0, none⟩) hs (hc 0 _ rfl)).1, hk1.keep hk, hv1.keep hk, fun j u hu => (hk.cell (a := ⟨b, j, none⟩) hs (hc j u hu)).2, IsN.keep hk hl, IsN.keep hk hr⟩
theorem IsN.below {w w' : World} {S : Nat → Prop} (hk : Below w.heap.size w w') {t : Nd} {p : Option Addr} (hh : IsN w S t p) : IsN w' S t p := hh.keep (Keeps.below hk)
/-- What the walk sees of a node. -/
structure NodeAt (w : World) (S : Nat → Prop) (b : Nat) (red : Bool) (pl pr : Option Addr) (k v : V) (A : Option Addr) (ca : Nat) (B : Option Addr) (cb : Nat) : Prop where
  s : S b
  lt : b < w.heap.size
  bk : V.Bd k
  bv : V.Bd v
  ka : k.items.length ≤ ca
  va : v.items.length ≤ cb
  lk : LA w S k.items A
  lv : LA w S v.items B
  c0 : w.cell? ⟨b, 0, none⟩ = some (.bool red)
  c1 : w.cell? ⟨b, 1, none⟩ = some (.pointer pl)
  c2 : w.cell? ⟨b, 2, none⟩ = some (.pointer pr)
  c3 : w.cell? ⟨b, 3, none⟩ = some (.int .i64 k.kind)
  c4 : w.cell? ⟨b, 4, none⟩ = some (.int .i64 k.num)
  c5 : w.cell? ⟨b, 5, none⟩ = some (.string k.text)
  c6 : w.cell? ⟨b, 6, none⟩ = some (.slice A k.items.length ca)
  c7 : w.cell? ⟨b, 7, none⟩ = some (.int .i64 v.kind)
  c8 : w.cell? ⟨b, 8, none⟩ = some (.int .i64 v.num)
  c9 : w.cell? ⟨b, 9, none⟩ = some (.string v.text)
  c10 : w.cell? ⟨b, 10, none⟩ = some (.slice B v.items.length cb)
theorem IsN.eq {w : World} {S : Nat → Prop} {red : Bool} {l r : Nd} {k v : V} {p : Option Addr} (h : IsN w S (.mk red l r k v) p) : ∃ b pl pr A ca B cb, p = some ⟨b, 0, none⟩ ∧ NodeAt w S b red pl pr k v A ca B cb ∧ IsN w S l pl ∧ IsN w S r pr := by
  obtain ⟨b, ck, cv, pl, pr, e, hs, hk1, hv1, hc, hl, hr⟩ := h
  obtain ⟨hbk, A, ca, rfl, h1, h2⟩ := hk1.eq
  obtain ⟨hbv, B, cb, rfl, h3, h4⟩ := hv1.eq
  exact ⟨b, pl, pr, A, ca, B, cb, e, ⟨hs, World.block_lt_of_cell? w _ (hc 0 _ rfl), hbk, hbv, h1, h3, h2, h4, hc 0 _ rfl, hc 1 _ rfl, hc 2 _ rfl, hc 3 _ rfl, hc 4 _ rfl, hc 5 _ rfl, hc 6 _ rfl, hc 7 _ rfl, hc 8 _ rfl, hc 9 _ rfl, hc 10 _ rfl⟩, hl, hr⟩
theorem IsN.new {w : World} {S : Nat → Prop} {red : Bool} {l r : Nd} {k v : V} {pl pr A B : Option Addr} {ca cb b : Nat} {t : TypeId} {fz : Nat × Nat} (hbk : V.Bd k) (hbv : V.Bd v) (hca : k.items.length ≤ ca) (hcb : v.items.length ≤ cb) (hA : LA w S k.items A) (hB : LA w S v.items B) (hS : S b) (hl : IsN w S l pl) (hr : IsN w S r pr)
    (hblk : w.heap[b]? = some (.cells #[.bool red, .pointer pl, .pointer pr, .int .i64 k.kind, .int .i64 k.num, .string k.text, .slice A k.items.length ca, .int .i64 v.kind, .int .i64 v.num, .string v.text, .slice B v.items.length cb] t fz)) : IsN w S (.mk red l r k v) (some ⟨b, 0, none⟩) := by
  refine ⟨b, _, _, pl, pr, rfl, hS, VC.mk hbk hca hA, VC.mk hbv hcb hB, fun j u hu => ?_, hl, hr⟩
  have := block_cells (c := [.bool red, .pointer pl, .pointer pr, .int .i64 k.kind, .int .i64 k.num, .string k.text, .slice A k.items.length ca, .int .i64 v.kind, .int .i64 v.num, .string v.text, .slice B v.items.length cb]) hblk j u hu
  rwa [plus0, Nat.zero_add] at this
theorem drew_of' (w : World) (o : Obj) : Below w.heap.size w (w.alloc o).drew := ((Below.refl _ _).alloc (Nat.le_refl _) _).drew
set_option maxRecDepth 100000 in
theorem isred_calls (t : Nd) (p : Option Addr) (w : World) (S : Nat → Prop) (h : IsN w S t p) : Calls Tryz.prog 69 #[.pointer p] w fun e w' => e = .returned (.bool t.isRed) ∧ w = w' := by
  cases t with
  | nil =>
    obtain rfl : p = none := h
    go_enter Tryz.func69, Tryz.ntmps69
    go_wp2_with fail
    go_ret
    exact ⟨rfl, rfl⟩
  | mk red l r k v =>
    obtain ⟨b, pl, pr, A, ca, B, cb, rfl, n, _, _⟩ := h.eq
    have c0 := n.c0
    have hlt := n.lt
    clear h n
    go_enter Tryz.func69, Tryz.ntmps69
    go_wp2_with fail
    go_ret
    exact ⟨rfl, rfl⟩
set_option maxRecDepth 100000 in
theorem like_calls (red0 : Bool) (l0 r0 : Nd) (k v : V) (red : Bool) (l r : Nd) (p pl pr : Option Addr) (w : World) (S : Nat → Prop) (hS : ∀ m, w.heap.size ≤ m → S m) (hx : IsN w S (.mk red0 l0 r0 k v) p) (hl : IsN w S l pl) (hr : IsN w S r pr) :
    Calls Tryz.prog 70 #[.pointer p, .bool red, .pointer pl, .pointer pr] w fun e w' => ∃ q, e = .returned (.pointer q) ∧ IsN w' S (.mk red l r k v) q ∧ Below w.heap.size w w' := by
  obtain ⟨b, pl0, pr0, A, ca, B, cb, rfl, n, _, _⟩ := hx.eq
  obtain ⟨hs, hlt, hbk, hbv, hka, hva, hlk, hlv, c0, c1, c2, c3, c4, c5, c6, c7, c8, c9, c10⟩ := n
  have HN := Lib.hid (And.intro (And.intro hbk hbv) (And.intro hlk hlv))
  have HC := Lib.hid (And.intro hl hr)
  have HS := Lib.hid hS
  clear hx hl hr hS hbk hbv hlk hlv hs
  go_enter Tryz.func70, Tryz.ntmps70
  go_wp2_with fail
  go_region
  go_wp2_with fail
  go_ret
  have hb := drew_of' w (.cells #[.bool red, .pointer pl, .pointer pr, .int .i64 k.kind, .int .i64 k.num, .string k.text, .slice A k.items.length ca, .int .i64 v.kind, .int .i64 v.num, .string v.text, .slice B v.items.length cb] 118)
  exact ⟨_, rfl, IsN.new HN.out.1.1 HN.out.1.2 hka hva (HN.out.2.1.below hb) (HN.out.2.2.below hb) (HS.out _ (Nat.le_refl _)) (HC.out.1.below hb) (HC.out.2.below hb) (heap_alloc_new w _), hb⟩
set_option maxRecDepth 100000 in
theorem black_calls (t : Nd) (p : Option Addr) (w : World) (S : Nat → Prop) (hS : ∀ m, w.heap.size ≤ m → S m) (h : IsN w S t p) :
    Calls Tryz.prog 51 #[.pointer p] w fun e w' => ∃ q, e = .returned (.pointer q) ∧ IsN w' S (blackN t) q ∧ Below w.heap.size w w' := by
  have HR := Lib.hid (isred_calls t p w S h)
  cases t with
  | nil =>
    obtain rfl : p = none := h
    go_enter Tryz.func51, Tryz.ntmps51
    go_wp2_with (go_at_call 69; refine HR.out.mono ?_; rintro e w' ⟨rfl, rfl⟩)
    go_ret
    exact ⟨_, rfl, rfl, Below.refl _ _⟩
  | mk red l r k v =>
    cases red with
    | false =>
      have HX := Lib.hid h
      clear h
      have HR2 : Hid (Calls Tryz.prog 69 #[.pointer p] w fun e w' => e = .returned (.bool false) ∧ w = w') := Lib.hid HR.out
      clear HR
      go_enter Tryz.func51, Tryz.ntmps51
      go_wp2_with (go_at_call 69; refine HR2.out.mono ?_; rintro e w' ⟨rfl, rfl⟩)
      go_ret
      exact ⟨_, rfl, HX.out, Below.refl _ _⟩
    | true =>
      have HR2 : Hid (Calls Tryz.prog 69 #[.pointer p] w fun e w' => e = .returned (.bool true) ∧ w = w') := Lib.hid HR.out
      obtain ⟨b, pl, pr, A, ca, B, cb, rfl, n, hl, hr⟩ := h.eq
      have HL := Lib.hid (fun (W : World) (hb : Below w.heap.size w W) => like_calls true l r k v false l r _ pl pr W S (fun m hm => hS m (Nat.le_trans hb.size hm)) (h.below hb) (hl.below hb) (hr.below hb))
      have c1 := n.c1
      have c2 := n.c2
      have hlt := n.lt
      clear HR h n hl hr hS
      go_enter Tryz.func51, Tryz.ntmps51
      go_wp2_with (go_at_call 69; refine HR2.out.mono ?_; rintro e w' ⟨rfl, rfl⟩)
      go_still_tail 9, (by kernel_rfl)
      go_wp2_with (go_at_call 70; refine (HL.out _ ((Below.refl _ _).drew)).mono ?_; rintro e w2 ⟨q2, rfl, hq2, hb2⟩; have HQ2 := Lib.hid hq2; have hb3 := below_undrew hb2; clear hq2 hb2)
      go_ret
      exact ⟨_, rfl, HQ2.out, hb3⟩
end Go.Proofs.YtmnblgaefdahhaaGreatDoor
