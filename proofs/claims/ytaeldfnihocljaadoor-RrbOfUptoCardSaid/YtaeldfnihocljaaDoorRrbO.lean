/- A tree with another item in a place. -/
import Derived.Test.YtaeldfnihocljaaDoorRrbN
import Derived.Test.YtaeldfnihocljaaDoorTree2
set_option linter.unusedVariables false
set_option linter.unusedSimpArgs false
namespace Go.Proofs.YtaeldfnihocljaaDoor
open Go.RowKit
attribute [local go_sem] lt_succ_of methLeaf methBranch asNone asSome asLeaf asBranch

set_option maxRecDepth 100000 in
set_option maxHeartbeats 4000000 in
theorem set_leaf (m : List V) (A : Option Addr) (cap : Nat) (i : Nat) (x : V) (vx : Value) (w : World) (S : Nat → Prop) (hA : LA w S m A) (hcap : m.length ≤ cap) (hi : i < m.length) (hm : m.length ≤ 32) (hx : IsV w S x vx) :
    Calls Tryd.prog 56 #[.iface 87 (.slice A m.length cap), .int .i64 (i : Int), vx] w fun e w' => ∃ u, e = .returned u ∧ IsN w' (Old w S) (.leaf (m.set i x)) u ∧ Below w.heap.size w w' := by
  obtain ⟨hbx, Ax, cx, rfl, hcx, hAx⟩ := hx.eq
  obtain ⟨w1, hw1, hB1, hsz, hb0⟩ := box0 w 31 (.int .i64 x.kind) (.int .i64 x.num) (.string x.text) (.slice Ax x.items.length cx)
  have hK1 : Keeps w S w1 (fun b => S b ∧ b < w.heap.size) := Keeps.below_to hB1 fun b h1 h2 => ⟨h2, h1⟩
  obtain ⟨ad, rfl, hLC⟩ : ∃ ad, A = some ad ∧ LC w1 (fun b => S b ∧ b < w.heap.size) m ad 0 := by
    rcases hA.keep hK1 with h | h
    · exfalso; subst h; simp at hi
    · exact h
  have HLC := Lib.hid hLC
  have HVC := Lib.hid ((VC.mk hbx hcx hAx).keep hK1)
  have HB0 := Lib.hid hb0
  have hi2 : (i : Int) < (m.length : Int) := by omega
  clear hLC hA hAx hx hb0
  go_enter Tryd.func56, Tryd.ntmps56
  go_wp2_with (first | (at_builtin; refine appendF_copy (fun b => S b ∧ b < w.heap.size) rfl _ _ rfl m ad cap rfl rfl HLC.out (by omega) ?_; intro v1 w3 hO hg; have hb3 := Below.grown (Below.refl w1.heap.size w1) hg (Nat.le_refl _) (fun k e => by cases e); have hown := hO.own_lt; have hVC3 : VC w3 (fun b => (S b ∧ b < w.heap.size) ∧ some b ≠ v1.ownBlock) x _ := HVC.out.keep (Keeps.below_to hb3 fun b hb hs => ⟨hs, fun e => by have := (hown b e.symm).1; omega⟩); obtain ⟨g, c1, rfl, hc1, hgb, hgl, ⟨q0, q1, q2, q3, g0, g1, g2, g3⟩, hfz, hO4⟩ := hO.store hi hVC3; have hk3 := blockB hb3 HB0.out; obtain ⟨e0, e1, e2, e3⟩ := block4 hk3; have HO4 := Lib.hid hO4; have hpl := plus0 g; have hsz3 := hb3.size; clear hO hO4 hVC3 hown hk3))
  go_ret
  refine ⟨_, rfl, ?_, ?_⟩
  · have hI := HO4.out.is (S' := Old w S) (fun b h => .inl h) (fun b (h : w1.heap.size ≤ b) => .inr (by omega)) (by rw [List.length_set]; omega)
    obtain ⟨A5, c5, he, h1, _, h3⟩ := hI
    rw [he]
    exact IsN.leaf_mk h1 h3
  · repeat refine Below.setCell ?_ (by simp; omega) _
    exact below_then hB1 hB1.size hb3
/-- What set says of a tree. -/
def SetAt (h : Nat) : Prop := ∀ (k : N) (u : Value) (i : Nat) (x : V) (vx : Value) (w : World) (S : Nat → Prop), Dn h k → IsN w S k u → i < (N.items k).length → (N.items k).length ≤ 65536 → IsV w S x vx →
  Calls Tryd.prog 56 #[u, .int .i64 (i : Int), vx] w fun e w' => ∃ k' u', e = .returned u' ∧ IsN w' (Old w S) k' u' ∧ Dn h k' ∧ (Pf h k → Pf h k') ∧ N.items k' = (N.items k).set i x ∧ (∀ ks, k = .branch ks → ∃ ks', k' = .branch ks' ∧ ks'.length = ks.length) ∧ Below w.heap.size w w'
theorem set_one : SetAt 1 := fun k u i x vx w S hd hu hi hm hx => by
  obtain ⟨m, rfl, hne, h32⟩ := hd
  obtain ⟨A, cap, rfl, hc, hA⟩ := hu.leaf_eq
  simp only [N.items] at hi ⊢
  refine (set_leaf m A cap i x vx w S hA hc hi h32 hx).mono ?_
  rintro e w' ⟨u', rfl, hu', hb⟩
  refine ⟨.leaf (m.set i x), u', rfl, hu', ⟨_, rfl, by simpa using hne, by simpa using h32⟩, fun ⟨l, e, hl⟩ => ⟨_, rfl, ?_⟩, rfl, (fun ks e => by cases e), hb⟩
  injection e with e
  subst e
  simpa using hl
/-! ### A node in the place of another -/
theorem flat_len (ks : List N) : (N.flat ks).length = (ks.map fun k => (N.items k).length).sum := by
  induction ks with
  | nil => rfl
  | cons k ks ih => rw [N.flat, List.length_append, ih, List.map_cons, List.sum_cons]
theorem map_set_same {ks : List N} {q : Nat} {k' : N} (hl : (N.items k').length = (N.items (kidAt ks q)).length) (hq : q < ks.length) : (ks.set q k').map (fun k => (N.items k).length) = ks.map fun k => (N.items k).length := by
  rw [List.map_set, hl]
  apply List.ext_getElem?
  intro j
  rw [List.getElem?_set]
  split
  · rename_i h
    subst h
    rw [if_pos (by simpa using hq), List.getElem?_map, kidAt_get hq]
    rfl
  · rfl
theorem upto_set {ks : List N} {q : Nat} {k' : N} (hl : (N.items k').length = (N.items (kidAt ks q)).length) (hq : q < ks.length) (i : Nat) : uptoN (ks.set q k') i = uptoN ks i := by
  unfold uptoN
  rw [flat_len, flat_len, List.map_take, List.map_take, map_set_same hl hq]
theorem flat_set {ks : List N} {q : Nat} {k' : N} (hq : q < ks.length) {j : Nat} {x : V} (hk : N.items k' = (N.items (kidAt ks q)).set j x) (hj : j < (N.items (kidAt ks q)).length) : N.flat (ks.set q k') = (N.flat ks).set (aheadN ks q + j) x := by
  conv => rhs; rw [flat_split hq]
  rw [List.set_eq_take_append_cons_drop, if_pos hq, flat_append, N.flat, hk]
  unfold aheadN
  rw [List.set_append_right _ _ (by omega), Nat.add_sub_cancel_left, List.set_append_left _ _ hj]
theorem Dn.set {h : Nat} {ks : List N} {q : Nat} {k' : N} (hd : Dn (h + 2) (.branch ks)) (hq : q < ks.length) (h1 : Dn (h + 1) k') (h2 : Pf (h + 1) (kidAt ks q) → Pf (h + 1) k') : Dn (h + 2) (.branch (ks.set q k')) := by
  obtain ⟨js, k, e, h3, h4, h5⟩ := hd
  injection e with e
  subst e
  by_cases hj : q < js.length
  · rw [List.set_append_left _ _ hj]
    refine ⟨_, k, rfl, by simpa using h3, fun x hx => ?_, h5⟩
    rcases List.mem_or_eq_of_mem_set hx with hx | hx
    · exact h4 x hx
    · rw [hx]
      refine h2 ?_
      have : kidAt (js ++ [k]) q = kidAt js q := by
        unfold kidAt
        simp [List.getD_eq_getElem?_getD, List.getElem?_append_left hj]
      rw [this]
      exact h4 _ (kidAt_mem hj)
  · obtain rfl : q = js.length := by simp at hq; omega
    rw [List.set_append_right _ _ (Nat.le_refl _), Nat.sub_self]
    exact ⟨js, k', rfl, h3, h4, h1⟩
theorem Pf.set {h : Nat} {ks : List N} {q : Nat} {k' : N} (hp : Pf (h + 2) (.branch ks)) (hq : q < ks.length) (h2 : Pf (h + 1) (kidAt ks q) → Pf (h + 1) k') : Pf (h + 2) (.branch (ks.set q k')) := by
  obtain ⟨js, e, h3, h4⟩ := hp
  injection e with e
  subst e
  refine ⟨_, rfl, by simpa using h3, fun x hx => ?_⟩
  rcases List.mem_or_eq_of_mem_set hx with hx | hx
  · exact h4 x hx
  · rw [hx]
    exact h2 (h4 _ (kidAt_mem hq))
end Go.Proofs.YtaeldfnihocljaaDoor
