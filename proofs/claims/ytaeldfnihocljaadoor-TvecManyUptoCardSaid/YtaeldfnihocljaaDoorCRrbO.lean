/- A tree with another item in a place. A tree with another item in a place: branches. A vector with another item in a place. The little program that each law runs. -/
import Derived.Deep.RegionWith
import Derived.Deep.RegionHeld3
import Derived.Test.YtaeldfnihocljaaDoorCRrbK
import Derived.Test.YtaeldfnihocljaaDoorCBase
/- A tree with another item in a place. -/
set_option linter.unusedVariables false
set_option linter.unusedSimpArgs false
namespace Go.Proofs.YtaeldfnihocljaaDoor
open Go.RowKit
attribute [local go_sem] lt_succ_of methLeaf methBranch asNone asSome asLeaf asBranch

set_option maxRecDepth 100000 in
set_option maxHeartbeats 4000000 in
theorem set_leaf (m : List V) (A : Option Addr) (cap : Nat) (i : Nat) (x : V) (vx : Value) (w : World) (S : Nat → Prop) (hA : LA w S m A) (hcap : m.length ≤ cap) (hi : i < m.length) (hm : m.length ≤ 32) (hx : IsV w S x vx) :
    Calls Tryd.prog 56 #[.iface 87 (.slice A m.length cap), .int .i64 (i : Int), vx] w fun e w' => ∃ u, e = .returned u ∧ IsN w' (Old w S) (.leaf (m.set i x)) u ∧ Below w.heap.size w w' := by
  obtain ⟨hbx, Ax, cx, rfl, hcx, hAx⟩ := hx.eq
  obtain ⟨w1, hw1, hB1, hsz, hb0⟩ := box0 w 31 (.int .i64 x.kind) (.int .i64 x.num) (.string x.text) (.slice Ax x.items.length cx)
  have hK1 : Keeps w S w1 (fun b => S b ∧ b < w.heap.size) := Keeps.below_to hB1 fun b h1 h2 => ⟨h2, h1⟩
  obtain ⟨ad, rfl, hLC⟩ : ∃ ad, A = some ad ∧ LC w1 (fun b => S b ∧ b < w.heap.size) m ad 0 := by
    rcases hA.keep hK1 with h | h
    · exfalso; subst h; simp at hi
    · exact h
  have HLC := Lib.hid hLC
  have HVC := Lib.hid ((VC.mk hbx hcx hAx).keep hK1)
  have HB0 := Lib.hid hb0
  have hi2 : (i : Int) < (m.length : Int) := by omega
  clear hLC hA hAx hx hb0
  go_enter Tryd.func56, Tryd.ntmps56
  go_wp2_with (first | (at_builtin; refine appendF_copy (fun b => S b ∧ b < w.heap.size) rfl _ _ rfl m ad cap rfl rfl HLC.out (by omega) ?_; intro v1 w3 hO hg; have hb3 := Below.grown (Below.refl w1.heap.size w1) hg (Nat.le_refl _) (fun k e => by cases e); have hown := hO.own_lt; have hVC3 : VC w3 (fun b => (S b ∧ b < w.heap.size) ∧ some b ≠ v1.ownBlock) x _ := HVC.out.keep (Keeps.below_to hb3 fun b hb hs => ⟨hs, fun e => by have := (hown b e.symm).1; omega⟩); obtain ⟨g, c1, rfl, hc1, hgb, hgl, ⟨q0, q1, q2, q3, g0, g1, g2, g3⟩, hfz, hO4⟩ := hO.store hi hVC3; have hk3 := blockB hb3 HB0.out; obtain ⟨e0, e1, e2, e3⟩ := block4 hk3; have HO4 := Lib.hid hO4; have hpl := plus0 g; have hsz3 := hb3.size; clear hO hO4 hVC3 hown hk3))
  go_ret
  refine ⟨_, rfl, ?_, ?_⟩
  · have hI := HO4.out.is (S' := Old w S) (fun b h => .inl h) (fun b (h : w1.heap.size ≤ b) => .inr (by omega)) (by rw [List.length_set]; omega)
    obtain ⟨A5, c5, he, h1, _, h3⟩ := hI
    rw [he]
    exact IsN.leaf_mk h1 h3
  · repeat refine Below.setCell ?_ (by simp; omega) _
    exact below_then hB1 hB1.size hb3
/-- What set says of a tree. -/
def SetAt (h : Nat) : Prop := ∀ (k : N) (u : Value) (i : Nat) (x : V) (vx : Value) (w : World) (S : Nat → Prop), Dn h k → IsN w S k u → i < (N.items k).length → (N.items k).length ≤ 65536 → IsV w S x vx →
  Calls Tryd.prog 56 #[u, .int .i64 (i : Int), vx] w fun e w' => ∃ k' u', e = .returned u' ∧ IsN w' (Old w S) k' u' ∧ Dn h k' ∧ (Pf h k → Pf h k') ∧ N.items k' = (N.items k).set i x ∧ (∀ ks, k = .branch ks → ∃ ks', k' = .branch ks' ∧ ks'.length = ks.length) ∧ Below w.heap.size w w'
theorem set_one : SetAt 1 := fun k u i x vx w S hd hu hi hm hx => by
  obtain ⟨m, rfl, hne, h32⟩ := hd
  obtain ⟨A, cap, rfl, hc, hA⟩ := hu.leaf_eq
  simp only [N.items] at hi ⊢
  refine (set_leaf m A cap i x vx w S hA hc hi h32 hx).mono ?_
  rintro e w' ⟨u', rfl, hu', hb⟩
  refine ⟨.leaf (m.set i x), u', rfl, hu', ⟨_, rfl, by simpa using hne, by simpa using h32⟩, fun ⟨l, e, hl⟩ => ⟨_, rfl, ?_⟩, rfl, (fun ks e => by cases e), hb⟩
  injection e with e
  subst e
  simpa using hl
/-! ### A node in the place of another -/
theorem flat_len (ks : List N) : (N.flat ks).length = (ks.map fun k => (N.items k).length).sum := by
  induction ks with
  | nil => rfl
  | cons k ks ih => rw [N.flat, List.length_append, ih, List.map_cons, List.sum_cons]
theorem map_set_same {ks : List N} {q : Nat} {k' : N} (hl : (N.items k').length = (N.items (kidAt ks q)).length) (hq : q < ks.length) : (ks.set q k').map (fun k => (N.items k).length) = ks.map fun k => (N.items k).length := by
  rw [List.map_set, hl]
  apply List.ext_getElem?
  intro j
  rw [List.getElem?_set]
  split
  · rename_i h
    subst h
    rw [if_pos (by simpa using hq), List.getElem?_map, kidAt_get hq]
    rfl
  · rfl
theorem upto_set {ks : List N} {q : Nat} {k' : N} (hl : (N.items k').length = (N.items (kidAt ks q)).length) (hq : q < ks.length) (i : Nat) : uptoN (ks.set q k') i = uptoN ks i := by
  unfold uptoN
  rw [flat_len, flat_len, List.map_take, List.map_take, map_set_same hl hq]
theorem flat_set {ks : List N} {q : Nat} {k' : N} (hq : q < ks.length) {j : Nat} {x : V} (hk : N.items k' = (N.items (kidAt ks q)).set j x) (hj : j < (N.items (kidAt ks q)).length) : N.flat (ks.set q k') = (N.flat ks).set (aheadN ks q + j) x := by
  conv => rhs; rw [flat_split hq]
  rw [List.set_eq_take_append_cons_drop, if_pos hq, flat_append, N.flat, hk]
  unfold aheadN
  rw [List.set_append_right _ _ (by omega), Nat.add_sub_cancel_left, List.set_append_left _ _ hj]
theorem Dn.set {h : Nat} {ks : List N} {q : Nat} {k' : N} (hd : Dn (h + 2) (.branch ks)) (hq : q < ks.length) (h1 : Dn (h + 1) k') (h2 : Pf (h + 1) (kidAt ks q) → Pf (h + 1) k') : Dn (h + 2) (.branch (ks.set q k')) := by
  obtain ⟨js, k, e, h3, h4, h5⟩ := hd
  injection e with e
  subst e
  by_cases hj : q < js.length
  · rw [List.set_append_left _ _ hj]
    refine ⟨_, k, rfl, by simpa using h3, fun x hx => ?_, h5⟩
    rcases List.mem_or_eq_of_mem_set hx with hx | hx
    · exact h4 x hx
    · rw [hx]
      refine h2 ?_
      have : kidAt (js ++ [k]) q = kidAt js q := by
        unfold kidAt
        simp [List.getD_eq_getElem?_getD, List.getElem?_append_left hj]
      rw [this]
      exact h4 _ (kidAt_mem hj)
  · obtain rfl : q = js.length := by simp at hq; omega
    rw [List.set_append_right _ _ (Nat.le_refl _), Nat.sub_self]
    exact ⟨js, k', rfl, h3, h4, h1⟩
theorem Pf.set {h : Nat} {ks : List N} {q : Nat} {k' : N} (hp : Pf (h + 2) (.branch ks)) (hq : q < ks.length) (h2 : Pf (h + 1) (kidAt ks q) → Pf (h + 1) k') : Pf (h + 2) (.branch (ks.set q k')) := by
  obtain ⟨js, e, h3, h4⟩ := hp
  injection e with e
  subst e
  refine ⟨_, rfl, by simpa using h3, fun x hx => ?_⟩
  rcases List.mem_or_eq_of_mem_set hx with hx | hx
  · exact h4 x hx
  · rw [hx]
    exact h2 (h4 _ (kidAt_mem hq))
end Go.Proofs.YtaeldfnihocljaaDoor

/- A tree with another item in a place: branches. -/
set_option linter.unusedVariables false
set_option linter.unusedSimpArgs false
namespace Go.Proofs.YtaeldfnihocljaaDoor
open Go.RowKit
attribute [local go_sem] lt_succ_of methLeaf methBranch asNone asSome asLeaf asBranch

theorem set_store {w w3 w6 : World} {base : Nat} {S : Nat → Prop} {g c3 q : Nat} {ks : List N} {k' : N} {u' : Value} (HO : OwnN w3 base (fun b => S b ∧ b < w.heap.size) ks (.slice (some ⟨g, 0, none⟩) ks.length c3)) (hb : Below w3.heap.size w3 w6) (hg : g < w3.heap.size) (hw : w.heap.size ≤ w3.heap.size) (hq : q < ks.length)
    (hu : IsN w6 (Old w3.drew (fun b => (S b ∧ b < w.heap.size) ∧ some b ≠ (Value.slice (some ⟨g, 0, none⟩) ks.length c3).ownBlock)) k' u') :
    (∃ t y, u' = .iface t y) ∧ w6.frozen? ⟨g, q, none⟩ = false ∧ OwnN (w6.setCell ⟨g, q, none⟩ u') base (Old w S) (ks.set q k') (.slice (some ⟨g, 0, none⟩) ks.length c3) := by
  have h6 : OwnN w6 base (Old w S) ks (.slice (some ⟨g, 0, none⟩) ks.length c3) := (HO.below hb).keep (Keeps.weak fun b h => .inl h) fun _ _ => rfl
  have hu7 : IsN w6 (fun b => Old w S b ∧ some b ≠ (Value.slice (some ⟨g, 0, none⟩) ks.length c3).ownBlock) k' u' := hu.keep (Keeps.weak fun b h => by
    rcases h with h | (h : w3.heap.size ≤ b)
    · exact ⟨.inl h.1.1, h.1.2⟩
    · exact ⟨.inr (Nat.le_trans hw h), fun e => by injection e with e; simp at e; omega⟩)
  obtain ⟨g', cap', he, _, _, _, hfz, hO⟩ := h6.store hq hu7
  simp only [Value.slice.injEq, Option.some.injEq, Addr.mk.injEq, and_true, true_and] at he
  obtain ⟨rfl, _⟩ := he
  exact ⟨hu.form, hfz, hO⟩
set_option maxRecDepth 100000 in
set_option maxHeartbeats 8000000 in
theorem set_branch (h : Nat) (ih : SetAt (h + 1)) : SetAt (h + 2) := by
  intro k u i x vx w S hd hu hi hm hx
  obtain ⟨ks, rfl⟩ : ∃ ks, k = .branch ks := by obtain ⟨ks, k', e, _⟩ := hd; exact ⟨_, e⟩
  obtain ⟨b, rfl, hB⟩ := hu.branch_eq
  obtain ⟨hbx, Ax, cx, rfl, hcx, hAx⟩ := hx.eq
  obtain ⟨w1, hw1, hB1, hsz, hb0⟩ := box0 w 31 (.int .i64 x.kind) (.int .i64 x.num) (.string x.text) (.slice Ax x.items.length cx)
  have hK1 : Keeps w S w1 (fun b => S b ∧ b < w.heap.size) := Keeps.below_to hB1 fun b h1 h2 => ⟨h2, h1⟩
  have hBw := hB.keep hK1
  obtain ⟨e0, e1, e2, e3⟩ := block4 hb0
  have hk32 := hd.ok.branch.2.1
  simp only [N.items] at hi hm ⊢
  have HAT := Lib.hid (at_calls ks b i w1 _ hBw hi (by omega) (by omega))
  have HX := Lib.hid ((IsV.mk hbx hcx hAx).keep hK1)
  have HBW := Lib.hid hBw
  have HD := Lib.hid hd
  have IH := Lib.hid ih
  obtain ⟨A, cA, B0, cB, hs, c0, hA, c1, hBc, hk, hu'⟩ := hBw
  have hbl := World.block_lt_of_cell? w1 _ c0
  have HKC := Lib.hid hk
  have HUP := Lib.hid hu'
  have HM := Lib.hid hm
  clear hd ih hB hu hx hAx hk hu' hm hb0
  go_enter Tryd.func56, Tryd.ntmps56
  go_wp2_with (first | (go_at_call 49; refine HAT.out.mono ?_; rintro e w2 ⟨q, j, rfl, hq, hqj, hj, hb2⟩; have d0 := cellB hb2 c0; have d1 := cellB hb2 c1; have HQJ := Lib.hid hqj; have HJ := Lib.hid hj; have f0 := cellB hb2 e0; have f1 := cellB hb2 e1; have f2 := cellB hb2 e2; have f3 := cellB hb2 e3; clear hqj hj c0 c1 e0 e1 e2 e3) | (at_builtin; refine appendN_copy (fun b => S b ∧ b < w.heap.size) rfl _ _ rfl ks A cA rfl rfl (HKC.out.keep (Keeps.below hb2)) (by omega) ?_; intro v1 w3 hO hg; have hb3 := Below.grown (Below.refl w2.heap.size w2) hg (Nat.le_refl _) (fun k e => by cases e); obtain ⟨g, c3, uq, rfl, hc3, hgb, hgl, hcq, huq⟩ := hO.at hq; have HO := Lib.hid hO; have HUQ := Lib.hid huq; have g0 := cellB hb3 f0; have g1 := cellB hb3 f1; have g2 := cellB hb3 f2; have g3 := cellB hb3 f3; have d2 := cellB hb3 d0; have d3 := cellB hb3 d1; have hpl := plus0 g; have hq2 : (q : Int) < (ks.length : Int) := (by omega); clear hO huq f0 f1 f2 f3 d0 d1))
  have hb4 := below_then hb2 hb2.size hb3
  have hb5 := below_then hB1 hB1.size hb4
  have hkid := HD.out.kid q hq
  have hkl : (N.items (kidAt ks q)).length ≤ 65536 := by
    have h1 := HM.out
    rw [flat_split hq, List.length_append, List.length_append] at h1
    omega
  have hown := HO.out.own_lt g rfl
  have hs2 := hb2.size
  have hs3 := hb3.size
  have HC := Lib.hid (IH.out (kidAt ks q) uq j x _ w3.drew _ hkid (HUQ.out.keep Keeps.drew) HJ.out hkl ((HX.out.keep (Keeps.below_to hb4 fun b hb hs => (⟨hs, fun e => by injection e with e; simp at e; omega⟩ : (S b ∧ b < w.heap.size) ∧ some b ≠ (Value.slice (some ⟨g, 0, none⟩) ks.length c3).ownBlock))).keep Keeps.drew))
  clear hkid hkl
  have hw3 : w.heap.size ≤ w3.heap.size := by omega
  have hbg : b ≠ g := by have := hs.2; omega
  have hgb2 : g ≠ b := Ne.symm hbg
  go_region_with (go_at_call 56; refine HC.out.mono ?_; rintro e w6 ⟨k', u', rfl, hu6, hd6, hp6, hi6, _, hb6⟩; have hb7 := below_undrew hb6; obtain ⟨⟨t, y, rfl⟩, hfz, hO7⟩ := set_store HO.out hb7 hgl hw3 hq hu6; have HO7 := Lib.hid hO7; have d4 := cellB hb7 d2; have d5 := cellB hb7 d3; have cg := cellB hb7 hcq; have HN6 := Lib.hid (And.intro hd6 (And.intro hp6 hi6)); clear hu6 hd6 hp6 hi6 hO7)
  all_goals go_wp2_with fail
  all_goals
    go_ret
    have hlen : (ks.set q k').length = ks.length := List.length_set
    have hw6 := hb7.size
    have hil : (N.items k').length = (N.items (kidAt ks q)).length := by rw [HN6.out.2.2, List.length_set]
    have hKf : Keeps w1 (fun b => S b ∧ b < w.heap.size) ((w6.setCell ⟨g, q, none⟩ (.iface t y)).alloc (.cells #[.slice (some ⟨g, 0, none⟩) ks.length c3, .slice (some B0) ks.length cB] 93)) (fun b => S b ∧ b < w.heap.size) :=
      ((Keeps.below (below_then hb4 hb4.size hb7)).trans (Keeps.set (fun h => by have := h.2; simp at this; omega) _)).trans (Keeps.alloc _)
    obtain ⟨A9, c9, he9, h91, h92⟩ := HO7.out.is (S' := Old w S) (fun b h => h) (fun b (h : w2.heap.size ≤ b) => .inr (by omega))
    have hnew := cell_new2 (w6.setCell ⟨g, q, none⟩ (.iface t y)) (.slice (some ⟨g, 0, none⟩) ks.length c3) (.slice (some B0) ks.length cB) 93
    simp only [World.size_setCell] at hnew
    refine ⟨.branch (ks.set q k'), _, rfl, IsN.branch_mk ⟨⟨g, 0, none⟩, c3, B0, cB, .inr (by omega), by rw [hlen]; exact hnew.1, by rw [hlen]; exact hc3, by rw [hlen]; exact hnew.2, by rw [hlen]; exact hBc, ?_, fun i' hi' => ?_⟩, HD.out.set hq HN6.out.1 HN6.out.2.1, fun hp => hp.set hq HN6.out.2.1, ?_, fun ks1 e => ⟨_, rfl, by injection e with e; rw [← e]; exact hlen⟩, ?_⟩
    · rcases h92 with h92 | ⟨ad9, h92, h93⟩
      · exfalso
        have h0 : 0 < (ks.set q k').length := by rw [hlen]; omega
        rw [h92] at h0
        simp at h0
      · simp only [Value.slice.injEq] at he9
        have : ad9 = ⟨g, 0, none⟩ := by
          have := he9.1.trans h92
          injection this with this
          exact this.symm
        subst this
        exact h93.keep (Keeps.alloc _)
    · rw [hlen] at hi'
      rw [upto_set hil hq]
      obtain ⟨h1, h2⟩ := HUP.out i' hi'
      have h3 := hKf.cell (a := B0.add i') (by rw [addr_add_block]; exact h1) h2
      rw [addr_add_block] at h3
      exact ⟨.inl h3.1, h3.2⟩
    · rw [N.items, flat_set hq HN6.out.2.2 HJ.out, HQJ.out]
    · refine Below.alloc (Below.setCell (below_then hb5 hb5.size hb7) (by simp; omega) _) (by simp; omega) _
theorem set_all : ∀ h, SetAt h
  | 0 => fun k u i x vx w S hd => hd.elim
  | 1 => set_one
  | h + 2 => set_branch h (set_all (h + 1))
end Go.Proofs.YtaeldfnihocljaaDoor

/- A vector with another item in a place. -/
set_option linter.unusedVariables false
set_option linter.unusedSimpArgs false
namespace Go.Proofs.YtaeldfnihocljaaDoor
open Go.RowKit
attribute [local go_sem] lt_succ_of methLeaf methBranch asNone asSome asLeaf asBranch

/-- What is wrong with an item for a place. -/
def setE (l : List V) (i : Int) (x : V) : Int := if rightB x = true then (if 0 ≤ i ∧ i < l.length then 0 else 5) else 3
set_option maxRecDepth 100000 in
set_option maxHeartbeats 8000000 in
theorem vset_calls (l : List V) (h b : Nat) (i : Int) (x : V) (vx : Value) (w : World) (S : Nat → Prop) (hr : IsR w S l h b) (hx : IsV w S x vx) (hT : Lib.Utf8Tabs 0 1 w) (hi0 : -9223372036854775808 ≤ i) (hi1 : i ≤ 9223372036854775807) :
    Calls Tryd.prog 25 #[.pointer (some ⟨b, 0, none⟩), .int .i64 i, vx] w fun e w' => ∃ p, e = .returned (.tuple #[p, .int .i64 (setE l i x)]) ∧ ((setE l i x ≠ 0 ∧ p = .pointer none) ∨ (setE l i x = 0 ∧ ∃ b', p = .pointer (some ⟨b', 0, none⟩) ∧ IsR w' (Old w S) (l.set i.toNat x) h b')) ∧ Below w.heap.size w w' := by
  obtain ⟨hbx, Ax, cx, rfl, hcx, hAx⟩ := hx.eq
  obtain ⟨w1, hw1, hB1, hsz, hb0⟩ := box0 w 31 (.int .i64 x.kind) (.int .i64 x.num) (.string x.text) (.slice Ax x.items.length cx)
  have hK1 : Keeps w S w1 (fun b => S b ∧ b < w.heap.size) := Keeps.below_to hB1 fun b h1 h2 => ⟨h2, h1⟩
  obtain ⟨e0, e1, e2, e3⟩ := block4 hb0
  have hX1 := (IsV.mk hbx hcx hAx).keep hK1
  have HX := Lib.hid hX1
  have HR := Lib.hid (hr.keep hK1)
  have HCK := Lib.hid (check_calls x _ w1 _ hX1 (tabs_below hT hB1))
  clear hx hAx hX1 hr hT hb0 hK1
  by_cases hc : rightB x = true
  · have hE : setE l i x = if 0 ≤ i ∧ i < l.length then 0 else 5 := by unfold setE; rw [if_pos hc]
    rw [if_pos hc] at HCK
    clear hc
    by_cases hneg : i < 0
    · rw [if_neg (by omega)] at hE
      rw [hE]
      clear hE
      have h2 : decide (i < 0) = true := by simpa using hneg
      go_enter Tryd.func25, Tryd.ntmps25
      go_wp2_with (first | (go_at_call 51; refine HCK.out.mono ?_; rintro e w2 ⟨rfl, hb2⟩))
      go_ret2
      exact ⟨_, rfl, .inl ⟨by decide, rfl⟩, below_then hB1 hB1.size hb2⟩
    · obtain ⟨j, rfl⟩ : ∃ j : Nat, i = (j : Int) := ⟨i.toNat, by omega⟩
      have h2 : decide ((j : Int) < 0) = false := by simp
      by_cases hj : j < l.length
      · rw [if_pos (by omega)] at hE
        rw [hE]
        clear hE
        simp only [Int.toNat_natCast]
        have hl65 := HR.out.2.2.1
        obtain ⟨hsb, ch, _, ⟨hl0, _⟩ | ⟨nd, u, c0, hu, hn, hd, hroot⟩⟩ := HR.out
        · exfalso; subst hl0; simp at hj
        obtain ⟨t, y, rfl⟩ := hu.form
        have HN := Lib.hid (And.intro hu (And.intro hn (And.intro hd hroot)))
        have hj3 : ¬ (l.length : Int) ≤ (j : Int) := by omega
        have hj4 : (j : Int) < (l.length : Int) := by omega
        have hbw : b < w1.heap.size := World.block_lt_of_cell? w1 _ c0
        have HJ := Lib.hid hj
        clear hu hn hd hroot hj
        go_enter Tryd.func25, Tryd.ntmps25
        go_wp2_with (first | (go_at_call 51; refine HCK.out.mono ?_; rintro e w2 ⟨rfl, hb2⟩; have HL := Lib.hid (len_calls l h b w2 _ (HR.out.below hb2))) | (go_at_call 24; refine HL.out.mono ?_; rintro e w3 ⟨rfl, hb3⟩; have hb4 := below_then hb2 hb2.size hb3; have d0 := cellB hb4 c0; have dh := cellB hb4 ch; have q0 := cellB hb4 e0; have q1 := cellB hb4 e1; have q2 := cellB hb4 e2; have q3 := cellB hb4 e3; clear c0 ch e0 e1 e2 e3))
        have hb5 := below_then hB1 hB1.size hb4
        have hs5 := hb4.size
        have HOWN := Lib.hid (own_calls x _ w3.drew _ ((HX.out.below hb4).keep Keeps.drew))
        go_region_held3 (fun w' => w'.cell? ⟨b, 0, none⟩ = some (.iface t y) ∧ w'.cell? ⟨b, 1, none⟩ = some (.int .i64 (h : Int)) ∧ w'.cell? ⟨w.heap.size, 0, none⟩ = some (.int .i64 x.kind) ∧ w'.cell? ⟨w.heap.size, 1, none⟩ = some (.int .i64 x.num) ∧ w'.cell? ⟨w.heap.size, 2, none⟩ = some (.string x.text) ∧ w'.cell? ⟨w.heap.size, 3, none⟩ = some (.slice Ax x.items.length cx))
          (first | go_keep | exact ⟨d1, dh1, s0, s1, s2, s3⟩ | exact ⟨d2, dh2, z0, z1, z2, z3⟩)
          (first | (go_at_call 48; refine HOWN.out.mono ?_; rintro e w4 ⟨v, rfl, hv, hbv⟩; have hb6 := below_undrew hbv; have d1 := cellB hb6 d0; have s0 := cellB hb6 q0; have s1 := cellB hb6 q1; have s2 := cellB hb6 q2; have s3 := cellB hb6 q3; have dh1 := cellB hb6 dh; have HSET := Lib.hid (set_all h nd (.iface t y) j x v w4 (Old w3 (fun b => S b ∧ b < w.heap.size)) HN.out.2.2.1 (((HN.out.1.below hb4).keep (Keeps.below_to hb6 fun b hb hs => .inl ⟨hs, hb⟩))) (by rw [HN.out.2.1]; exact HJ.out) (by rw [HN.out.2.1]; exact hl65) (hv.keep (Keeps.weak fun b hb => .inr hb))); clear hv) | (go_at_call 56; refine HSET.out.mono ?_; rintro e w6 ⟨k', u', rfl, hu6, hd6, hp6, hi6, hr6, hb7⟩; obtain ⟨t6, y6, rfl⟩ := hu6.form; have d2 := cellB hb7 d1; have z0 := cellB hb7 s0; have z1 := cellB hb7 s1; have z2 := cellB hb7 s2; have z3 := cellB hb7 s3; have dh2 := cellB hb7 dh1; have HK := Lib.hid (And.intro hu6 (And.intro hd6 (And.intro hi6 hr6))); have hb8 := below_then hb6 hb6.size hb7; clear hu6 hd6 hp6 hi6 hr6))
        go_wp2_with fail
        go_ret2
        have hs6 := hb8.size
        have hnew := cell_new2 w6 (.iface t6 y6) (.int .i64 (h : Int)) 83
        have hS : ∀ b, Old w4 (Old w3 (fun b => S b ∧ b < w.heap.size)) b → Old w S b := fun b hb => by
          rcases hb with ⟨hb | hb, _⟩ | hb
          · exact .inl hb.1
          · exact .inr (by omega)
          · exact .inr (by have := hb6.size; omega)
        refine ⟨_, rfl, .inr ⟨by trivial, w6.heap.size, rfl, ⟨.inr (by omega), hnew.2, by rw [List.length_set]; exact hl65, .inr ⟨k', _, hnew.1, HK.out.1.keep ((Keeps.alloc _).trans (Keeps.weak hS)), by rw [HK.out.2.2.1, HN.out.2.1], HK.out.2.1, ?_⟩⟩⟩, (below_then hb5 hb5.size hb8).alloc (by omega) _⟩
        rcases HN.out.2.2.2 with h1 | ⟨ks, h1, h2⟩
        · exact .inl h1
        · obtain ⟨ks', h3, h4⟩ := HK.out.2.2.2 ks h1
          exact .inr ⟨ks', h3, by omega⟩
      · rw [if_neg (by omega)] at hE
        rw [hE]
        clear hE
        have hj3 : (l.length : Int) ≤ (j : Int) := by omega
        go_enter Tryd.func25, Tryd.ntmps25
        go_wp2_with (first | (go_at_call 51; refine HCK.out.mono ?_; rintro e w2 ⟨rfl, hb2⟩; have HL := Lib.hid (len_calls l h b w2 _ (HR.out.below hb2))) | (go_at_call 24; refine HL.out.mono ?_; rintro e w3 ⟨rfl, hb3⟩))
        go_ret2
        exact ⟨_, rfl, .inl ⟨by decide, rfl⟩, below_then (below_then hB1 hB1.size hb2) (below_then hB1 hB1.size hb2).size hb3⟩
  · have hE : setE l i x = 3 := by unfold setE; rw [if_neg hc]
    rw [if_neg hc] at HCK
    rw [hE]
    clear hE hc
    go_enter Tryd.func25, Tryd.ntmps25
    go_wp2_with (first | (go_at_call 51; refine HCK.out.mono ?_; rintro e w2 ⟨rfl, hb2⟩))
    go_ret2
    exact ⟨_, rfl, .inl ⟨by decide, rfl⟩, below_then hB1 hB1.size hb2⟩
end Go.Proofs.YtaeldfnihocljaaDoor

/- The little program that each law runs. -/
set_option linter.unusedVariables false
set_option linter.unusedSimpArgs false
namespace Go.Proofs.YtaeldfnihocljaaDoor
open Go.RowKit
attribute [local go_sem] lt_succ_of

theorem three_ok : listE [V.int 1, V.int 2, V.int 3] = 0 := by decide
theorem nine_ok : setE [V.int 1, V.int 2, V.int 3] 1 (V.int 9) = 0 := by decide
theorem int_form {w : World} {S : Nat → Prop} {n : Int} {v : Value} (h : IsV w S (V.int n) v) : ∃ A c, v = .agg #[.int .i64 2, .int .i64 n, .string ⟨#[]⟩, .slice A 0 c] := by
  obtain ⟨_, A, c, rfl, _⟩ := h.eq
  exact ⟨A, c, rfl⟩
theorem zero_form {w : World} {S : Nat → Prop} {v : Value} (h : IsV w S V.zero v) : ∃ A c, v = .agg #[.int .i64 0, .int .i64 0, .string ⟨#[]⟩, .slice A 0 c] := by
  obtain ⟨_, A, c, rfl, _⟩ := h.eq
  exact ⟨A, c, rfl⟩
theorem box_num (w : World) (c0 c1 c2 c3 : Value) (t : TypeId) : (w.alloc (.cells #[c0, c1, c2, c3] t)).cell? ⟨w.heap.size, 1, none⟩ = some c1 := (block4 (heap_alloc_new w _)).2.1
theorem nth1 : nthV (List.set [V.int 1, V.int 2, V.int 3] (1 : Int).toNat (V.int 9)) 1 = (V.int 9, 0) := rfl
theorem nth2 : nthV [V.int 1, V.int 2, V.int 3] 1 = (V.int 2, 0) := rfl
theorem nth3 : nthV [V.int 1, V.int 2, V.int 3] 3 = (V.zero, 5) := rfl
set_option maxRecDepth 100000 in
set_option maxHeartbeats 8000000 in
theorem speaks_calls (w : World) (hT : Lib.Utf8Tabs 0 1 w) : Calls Tryd.prog 13 #[] w fun e w' => e = .returned (.bool true) ∧ Below w.heap.size w w' := by
  have hw1 : ∃ w1, w.alloc (.cells #[.int .i64 1, .int .i64 2, .int .i64 3] 2) = w1 ∧ Below w.heap.size w w1 ∧ w1.heap[w.heap.size]? = some (.cells #[.int .i64 1, .int .i64 2, .int .i64 3] 2 (0, 0)) :=
    ⟨_, rfl, (Below.refl _ _).alloc (Nat.le_refl _) _, heap_alloc_new w _⟩
  obtain ⟨w1, hw1, hB1, hb0⟩ := hw1
  have hI : IsI w1 [1, 2, 3] (.slice (some ⟨w.heap.size, 0, none⟩) 3 3) := by
    refine ⟨some ⟨w.heap.size, 0, none⟩, 3, rfl, by simp, by simp, fun i hi => ⟨_, rfl, ?_⟩, fun n hn => ?_⟩
    · rw [plus0]
      match i, hi with
      | 0, _ => simp [World.cell?, hb0, numAt]
      | 1, _ => simp [World.cell?, hb0, numAt]
      | 2, _ => simp [World.cell?, hb0, numAt]
    · simp at hn
      rcases hn with rfl | rfl | rfl <;> omega
  have HINTS := Lib.hid (ints_calls [1, 2, 3] _ w1 hI)
  have HT := Lib.hid hT
  clear hT hI hb0
  go_enter Tryd.func13, Tryd.ntmps13
  go_wp2_with (first | (go_at_call 46; refine HINTS.out.mono ?_; rintro e w2 ⟨r, rfl, hr, hb2⟩; have hb3 := below_then hB1 hB1.size hb2; have HOF := Lib.hid (of_calls [V.int 1, V.int 2, V.int 3] r w2 _ hr (tabs_below HT.out hb3)); clear hr) | (go_at_call 11; refine HOF.out.mono ?_; rintro e w4 ⟨p, rfl, hp, hb4⟩; rw [three_ok] at *; obtain ⟨h, b, rfl, hv⟩ := (hp.resolve_left (fun h => h.1 rfl)).2; have HV := Lib.hid hv; have hb5 := below_then hb3 hb3.size hb4; clear hp hv) | (go_at_call 47; refine (int_calls 9 w4).mono ?_; rintro e w5 ⟨rfl, hb6⟩; have HSET := Lib.hid (vset_calls _ h b 1 (V.int 9) _ w5 (fun _ => True) ((HV.out.below hb6).keep (Keeps.weak fun _ _ => trivial)) (int_is w5 _ (by decide) (by decide)) (tabs_below HT.out (below_then hb5 hb5.size hb6)) (by decide) (by decide)); have hb7 := below_then hb5 hb5.size hb6; have HV5 := Lib.hid (HV.out.below hb6)) | (go_at_call 25; refine HSET.out.mono ?_; rintro e w6 ⟨p6, rfl, hp6, hb8⟩; rw [nine_ok] at *; obtain ⟨b', rfl, hv6⟩ := (hp6.resolve_left (fun h => h.1 rfl)).2; have HN1 := Lib.hid (nth_calls _ _ _ 1 w6 _ hv6 (by decide) (by decide)); have HV6 := Lib.hid (HV5.out.below hb8); have HW6 := Lib.hid hv6; have hb9 := below_then hb7 hb7.size hb8; clear hp6 hv6) | (go_at_call 15; refine HN1.out.mono ?_; clear HN1; rintro e w7 ⟨v7, rfl, hv7, hb10⟩; rw [nth1] at *; obtain ⟨A7, c7, rfl⟩ := int_form hv7; have hb11 := below_then hb9 hb9.size hb10; have HV7 := Lib.hid (HV6.out.below hb10); have HW7 := Lib.hid (HW6.out.below hb10); clear hv7) | (go_at_call 15; refine (nth_calls _ h b 1 _ _ (HV7.out.below ((Below.refl _ _).alloc (Nat.le_refl _) _)) (by decide) (by decide)).mono ?_; rintro e w8 ⟨v8, rfl, hv8, hb12⟩; rw [nth2] at *; obtain ⟨A8, c8, rfl⟩ := int_form hv8; have hb13 := below_then ((Below.refl _ _).alloc (Nat.le_refl _) _) (by simp) hb12; have n7 := cellB hb12 (box_num w7 (.int .i64 2) (.int .i64 9) (.string ⟨#[]⟩) (.slice A7 0 c7) 31); have hb14 := below_then hb11 hb11.size hb13; have HV8 := Lib.hid (HV7.out.below hb13); have HW8 := Lib.hid (HW7.out.below hb13); clear HV7 HW7 hv8 hb12 hb13) | (go_at_call 15; refine (nth_calls _ h b 3 _ _ (HV8.out.below ((Below.refl _ _).alloc (Nat.le_refl _) _)) (by decide) (by decide)).mono ?_; rintro e w9 ⟨v9, rfl, hv9, hb15⟩; rw [nth3] at *; obtain ⟨A9, c9, rfl⟩ := zero_form hv9; have hb16 := below_then ((Below.refl _ _).alloc (Nat.le_refl _) _) (by simp) hb15; have n8 := cellB hb15 (box_num w8 (.int .i64 2) (.int .i64 2) (.string ⟨#[]⟩) (.slice A8 0 c8) 31); have n7' := cellB hb16 n7; have hb17 := below_then hb14 hb14.size hb16; have HW9 := Lib.hid (HW8.out.below hb16); have l7 := World.block_lt_of_cell? w9 _ n7'; have l8 := World.block_lt_of_cell? w9 _ n8; clear HV8 HW8 hv9 hb15 hb16 n7) | (go_at_call 24; refine (len_calls _ _ b' _ _ (HW9.out.below ((Below.refl _ _).alloc (Nat.le_refl _) _))).mono ?_; rintro e w10 ⟨rfl, hb18⟩; have hb19 := below_then ((Below.refl _ _).alloc (Nat.le_refl _) _) (by simp) hb18; have hb20 := below_then hb17 hb17.size hb19))
  go_ret
  exact ⟨rfl, hb20⟩
end Go.Proofs.YtaeldfnihocljaaDoor
