/- A tree with another item in a place: branches. -/
import Derived.Test.YtaeldfnihocljaaDoorRrbO
import Derived.Deep.RegionWith
set_option linter.unusedVariables false
set_option linter.unusedSimpArgs false
namespace Go.Proofs.YtaeldfnihocljaaDoor
open Go.RowKit
attribute [local go_sem] lt_succ_of methLeaf methBranch asNone asSome asLeaf asBranch

theorem set_store {w w3 w6 : World} {base : Nat} {S : Nat → Prop} {g c3 q : Nat} {ks : List N} {k' : N} {u' : Value} (HO : OwnN w3 base (fun b => S b ∧ b < w.heap.size) ks (.slice (some ⟨g, 0, none⟩) ks.length c3)) (hb : Below w3.heap.size w3 w6) (hg : g < w3.heap.size) (hw : w.heap.size ≤ w3.heap.size) (hq : q < ks.length)
    (hu : IsN w6 (Old w3.drew (fun b => (S b ∧ b < w.heap.size) ∧ some b ≠ (Value.slice (some ⟨g, 0, none⟩) ks.length c3).ownBlock)) k' u') :
    (∃ t y, u' = .iface t y) ∧ w6.frozen? ⟨g, q, none⟩ = false ∧ OwnN (w6.setCell ⟨g, q, none⟩ u') base (Old w S) (ks.set q k') (.slice (some ⟨g, 0, none⟩) ks.length c3) := by
  have h6 : OwnN w6 base (Old w S) ks (.slice (some ⟨g, 0, none⟩) ks.length c3) := (HO.below hb).keep (Keeps.weak fun b h => .inl h) fun _ _ => rfl
  have hu7 : IsN w6 (fun b => Old w S b ∧ some b ≠ (Value.slice (some ⟨g, 0, none⟩) ks.length c3).ownBlock) k' u' := hu.keep (Keeps.weak fun b h => by
    rcases h with h | (h : w3.heap.size ≤ b)
    · exact ⟨.inl h.1.1, h.1.2⟩
    · exact ⟨.inr (Nat.le_trans hw h), fun e => by injection e with e; simp at e; omega⟩)
  obtain ⟨g', cap', he, _, _, _, hfz, hO⟩ := h6.store hq hu7
  simp only [Value.slice.injEq, Option.some.injEq, Addr.mk.injEq, and_true, true_and] at he
  obtain ⟨rfl, _⟩ := he
  exact ⟨hu.form, hfz, hO⟩
set_option maxRecDepth 100000 in
set_option maxHeartbeats 8000000 in
theorem set_branch (h : Nat) (ih : SetAt (h + 1)) : SetAt (h + 2) := by
  intro k u i x vx w S hd hu hi hm hx
  obtain ⟨ks, rfl⟩ : ∃ ks, k = .branch ks := by obtain ⟨ks, k', e, _⟩ := hd; exact ⟨_, e⟩
  obtain ⟨b, rfl, hB⟩ := hu.branch_eq
  obtain ⟨hbx, Ax, cx, rfl, hcx, hAx⟩ := hx.eq
  obtain ⟨w1, hw1, hB1, hsz, hb0⟩ := box0 w 31 (.int .i64 x.kind) (.int .i64 x.num) (.string x.text) (.slice Ax x.items.length cx)
  have hK1 : Keeps w S w1 (fun b => S b ∧ b < w.heap.size) := Keeps.below_to hB1 fun b h1 h2 => ⟨h2, h1⟩
  have hBw := hB.keep hK1
  obtain ⟨e0, e1, e2, e3⟩ := block4 hb0
  have hk32 := hd.ok.branch.2.1
  simp only [N.items] at hi hm ⊢
  have HAT := Lib.hid (at_calls ks b i w1 _ hBw hi (by omega) (by omega))
  have HX := Lib.hid ((IsV.mk hbx hcx hAx).keep hK1)
  have HBW := Lib.hid hBw
  have HD := Lib.hid hd
  have IH := Lib.hid ih
  obtain ⟨A, cA, B0, cB, hs, c0, hA, c1, hBc, hk, hu'⟩ := hBw
  have hbl := World.block_lt_of_cell? w1 _ c0
  have HKC := Lib.hid hk
  have HUP := Lib.hid hu'
  have HM := Lib.hid hm
  clear hd ih hB hu hx hAx hk hu' hm hb0
  go_enter Tryd.func56, Tryd.ntmps56
  go_wp2_with (first | (go_at_call 49; refine HAT.out.mono ?_; rintro e w2 ⟨q, j, rfl, hq, hqj, hj, hb2⟩; have d0 := cellB hb2 c0; have d1 := cellB hb2 c1; have HQJ := Lib.hid hqj; have HJ := Lib.hid hj; have f0 := cellB hb2 e0; have f1 := cellB hb2 e1; have f2 := cellB hb2 e2; have f3 := cellB hb2 e3; clear hqj hj c0 c1 e0 e1 e2 e3) | (at_builtin; refine appendN_copy (fun b => S b ∧ b < w.heap.size) rfl _ _ rfl ks A cA rfl rfl (HKC.out.keep (Keeps.below hb2)) (by omega) ?_; intro v1 w3 hO hg; have hb3 := Below.grown (Below.refl w2.heap.size w2) hg (Nat.le_refl _) (fun k e => by cases e); obtain ⟨g, c3, uq, rfl, hc3, hgb, hgl, hcq, huq⟩ := hO.at hq; have HO := Lib.hid hO; have HUQ := Lib.hid huq; have g0 := cellB hb3 f0; have g1 := cellB hb3 f1; have g2 := cellB hb3 f2; have g3 := cellB hb3 f3; have d2 := cellB hb3 d0; have d3 := cellB hb3 d1; have hpl := plus0 g; have hq2 : (q : Int) < (ks.length : Int) := (by omega); clear hO huq f0 f1 f2 f3 d0 d1))
  have hb4 := below_then hb2 hb2.size hb3
  have hb5 := below_then hB1 hB1.size hb4
  have hkid := HD.out.kid q hq
  have hkl : (N.items (kidAt ks q)).length ≤ 65536 := by
    have h1 := HM.out
    rw [flat_split hq, List.length_append, List.length_append] at h1
    omega
  have hown := HO.out.own_lt g rfl
  have hs2 := hb2.size
  have hs3 := hb3.size
  have HC := Lib.hid (IH.out (kidAt ks q) uq j x _ w3.drew _ hkid (HUQ.out.keep Keeps.drew) HJ.out hkl ((HX.out.keep (Keeps.below_to hb4 fun b hb hs => (⟨hs, fun e => by injection e with e; simp at e; omega⟩ : (S b ∧ b < w.heap.size) ∧ some b ≠ (Value.slice (some ⟨g, 0, none⟩) ks.length c3).ownBlock))).keep Keeps.drew))
  clear hkid hkl
  have hw3 : w.heap.size ≤ w3.heap.size := by omega
  have hbg : b ≠ g := by have := hs.2; omega
  have hgb2 : g ≠ b := Ne.symm hbg
  go_region_with (go_at_call 56; refine HC.out.mono ?_; rintro e w6 ⟨k', u', rfl, hu6, hd6, hp6, hi6, _, hb6⟩; have hb7 := below_undrew hb6; obtain ⟨⟨t, y, rfl⟩, hfz, hO7⟩ := set_store HO.out hb7 hgl hw3 hq hu6; have HO7 := Lib.hid hO7; have d4 := cellB hb7 d2; have d5 := cellB hb7 d3; have cg := cellB hb7 hcq; have HN6 := Lib.hid (And.intro hd6 (And.intro hp6 hi6)); clear hu6 hd6 hp6 hi6 hO7)
  all_goals go_wp2_with fail
  all_goals
    go_ret
    have hlen : (ks.set q k').length = ks.length := List.length_set
    have hw6 := hb7.size
    have hil : (N.items k').length = (N.items (kidAt ks q)).length := by rw [HN6.out.2.2, List.length_set]
    have hKf : Keeps w1 (fun b => S b ∧ b < w.heap.size) ((w6.setCell ⟨g, q, none⟩ (.iface t y)).alloc (.cells #[.slice (some ⟨g, 0, none⟩) ks.length c3, .slice (some B0) ks.length cB] 93)) (fun b => S b ∧ b < w.heap.size) :=
      ((Keeps.below (below_then hb4 hb4.size hb7)).trans (Keeps.set (fun h => by have := h.2; simp at this; omega) _)).trans (Keeps.alloc _)
    obtain ⟨A9, c9, he9, h91, h92⟩ := HO7.out.is (S' := Old w S) (fun b h => h) (fun b (h : w2.heap.size ≤ b) => .inr (by omega))
    have hnew := cell_new2 (w6.setCell ⟨g, q, none⟩ (.iface t y)) (.slice (some ⟨g, 0, none⟩) ks.length c3) (.slice (some B0) ks.length cB) 93
    simp only [World.size_setCell] at hnew
    refine ⟨.branch (ks.set q k'), _, rfl, IsN.branch_mk ⟨⟨g, 0, none⟩, c3, B0, cB, .inr (by omega), by rw [hlen]; exact hnew.1, by rw [hlen]; exact hc3, by rw [hlen]; exact hnew.2, by rw [hlen]; exact hBc, ?_, fun i' hi' => ?_⟩, HD.out.set hq HN6.out.1 HN6.out.2.1, fun hp => hp.set hq HN6.out.2.1, ?_, fun ks1 e => ⟨_, rfl, by injection e with e; rw [← e]; exact hlen⟩, ?_⟩
    · rcases h92 with h92 | ⟨ad9, h92, h93⟩
      · exfalso
        have h0 : 0 < (ks.set q k').length := by rw [hlen]; omega
        rw [h92] at h0
        simp at h0
      · simp only [Value.slice.injEq] at he9
        have : ad9 = ⟨g, 0, none⟩ := by
          have := he9.1.trans h92
          injection this with this
          exact this.symm
        subst this
        exact h93.keep (Keeps.alloc _)
    · rw [hlen] at hi'
      rw [upto_set hil hq]
      obtain ⟨h1, h2⟩ := HUP.out i' hi'
      have h3 := hKf.cell (a := B0.add i') (by rw [addr_add_block]; exact h1) h2
      rw [addr_add_block] at h3
      exact ⟨.inl h3.1, h3.2⟩
    · rw [N.items, flat_set hq HN6.out.2.2 HJ.out, HQJ.out]
    · refine Below.alloc (Below.setCell (below_then hb5 hb5.size hb7) (by simp; omega) _) (by simp; omega) _
theorem set_all : ∀ h, SetAt h
  | 0 => fun k u i x vx w S hd => hd.elim
  | 1 => set_one
  | h + 2 => set_branch h (set_all (h + 1))
end Go.Proofs.YtaeldfnihocljaaDoor
