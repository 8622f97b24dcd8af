/- The document's answers of lists. -/
import Derived.Test.YtjjbhnkplbjfeaaDoorCFnP
import Derived.Test.YtjjbhnkplbjfeaaDoorCValC
import Derived.Test.YtjjbhnkplbjfeaaDoorCValH

set_option linter.unusedVariables false
set_option linter.unusedSimpArgs false
namespace Go.Proofs.YtjjbhnkplbjfeaaDoor
open Go.RowKit
attribute [local go_sem] lt_succ_of

set_option maxRecDepth 100000 in
theorem refnth_calls (l : List V) (i : Int) (vl : Value) (w : World) (S : Nat → Prop) (hl : IsS w S l vl) (hi0 : -9223372036854775808 ≤ i) (hi1 : i ≤ 9223372036854775807) :
    Calls Tryd.prog 20 #[vl, .int .i64 i] w fun e w' => ∃ v, e = .returned (.tuple #[v, .int .i64 (nthV l i).2]) ∧ IsV w' (fun b => S b ∨ w.heap.size ≤ b) (nthV l i).1 v ∧ Below w.heap.size w w' := by
  obtain ⟨A, cA, rfl, hcA, hla, hA⟩ := hl
  obtain ⟨w1, hw1, hB1, hsz, hb0⟩ := box0 w 33 (.int .i64 0) (.int .i64 0) (.string ⟨#[]⟩) (.slice none 0 0)
  obtain ⟨e0, e1, e2, e3⟩ := block4 hb0
  have fz := free4 hb0
  by_cases hneg : i < 0
  · have hz : nthV l i = (V.zero, 5) := by unfold nthV; rw [if_neg (by omega)]
    rw [hz]
    have h2 : decide (i < 0) = true := by simpa using hneg
    clear hb0 hA
    go_enter Tryd.func20, Tryd.ntmps20
    go_wp2_with fail
    refine bodyPost_ret (v := .tuple #[.agg #[.int .i64 0, .int .i64 0, .string ⟨#[]⟩, .slice none 0 0], .int .i64 5]) (by simp [results, Tryd.results20, go_sem, e0, e1, e2, e3]) rfl ⟨_, rfl, zero_is _ _, ?_⟩
    repeat refine Below.setCell ?_ (by simp) _
    exact hB1
  · obtain ⟨j, rfl⟩ : ∃ j : Nat, i = (j : Int) := ⟨i.toNat, by omega⟩
    have h2 : decide ((j : Int) < 0) = false := by simp
    by_cases hj : j < l.length
    · have hz : nthV l (j : Int) = (itemAt l j, 0) := by unfold nthV; rw [if_pos (by omega)]; simp
      rw [hz]
      obtain ⟨ad, A1, cap1, rfl, hla', hbd, f0, f1, f2, f3, hcap1, hLA⟩ := (hA.keep (S' := fun b => S b ∧ b < w.heap.size) (Keeps.below_to hB1 fun b h1 h2 => ⟨h2, h1⟩)).at j hj
      have hj2 : (j : Int) < (l.length : Int) := by omega
      have hj3 : ¬ (l.length : Int) ≤ (j : Int) := by omega
      have HLA := Lib.hid hLA
      clear hb0 hA hz hneg hLA
      go_enter Tryd.func20, Tryd.ntmps20
      go_wp2_with fail
      refine bodyPost_ret (v := .tuple #[.agg #[.int .i64 (itemAt l j).kind, .int .i64 (itemAt l j).num, .string (itemAt l j).text, .slice A1 (itemAt l j).items.length cap1], .int .i64 0]) (by simp [results, Tryd.results20, go_sem, e0, e1, e2, e3]) rfl ⟨_, rfl, ?_, ?_⟩
      · have hn : ¬ (fun b => S b ∧ b < w.heap.size) w.heap.size := fun h => absurd h.2 (Nat.lt_irrefl _)
        refine IsV.mk hbd hcap1 (HLA.out.keep (Keeps.trans (S1 := fun b => S b ∧ b < w.heap.size) ?_ (Keeps.weak fun b h => .inl h.1)))
        repeat refine Keeps.set_after ?_ hn _
        exact Keeps.refl _ _
      · repeat refine Below.setCell ?_ (by simp) _
        exact hB1
    · have hz : nthV l (j : Int) = (V.zero, 5) := by unfold nthV; rw [if_neg (by omega)]
      rw [hz]
      have hj2 : ¬ (j : Int) < (l.length : Int) := by omega
      have hj3 : (l.length : Int) ≤ (j : Int) := by omega
      clear hb0 hA hz hneg hj
      go_enter Tryd.func20, Tryd.ntmps20
      go_wp2_with fail
      refine bodyPost_ret (v := .tuple #[.agg #[.int .i64 0, .int .i64 0, .string ⟨#[]⟩, .slice none 0 0], .int .i64 5]) (by simp [results, Tryd.results20, go_sem, e0, e1, e2, e3]) rfl ⟨_, rfl, zero_is _ _, ?_⟩
      repeat refine Below.setCell ?_ (by simp) _
      exact hB1

theorem OwnL.cap0 {w : World} {base : Nat} {S : Nat → Prop} {l : List V} {n c : Nat} (h : OwnL w base S l (.slice none n c)) : c = 0 := by
  obtain ⟨xs, ⟨_, h2⟩, _⟩ := h
  rcases h2 with ⟨e, _⟩ | ⟨g, cap, cur, e, _⟩
  · simp only [Value.slice.injEq] at e
    exact e.2.2
  · simp at e
theorem setE_bad {l : List V} {i : Int} {x : V} (h : ¬ rightB x = true) : setE l i x = 3 := by unfold setE; rw [if_neg h]
theorem setE_out {l : List V} {i : Int} {x : V} (h : rightB x = true) (h2 : ¬ (0 ≤ i ∧ i < l.length)) : setE l i x = 5 := by unfold setE; rw [if_pos h, if_neg h2]
theorem setE_in {l : List V} {i : Int} {x : V} (h : rightB x = true) (h2 : 0 ≤ i ∧ i < l.length) : setE l i x = 0 := by unfold setE; rw [if_pos h, if_pos h2]
set_option maxRecDepth 100000 in
set_option maxHeartbeats 4000000 in
theorem refset_calls (l : List V) (i : Int) (x : V) (vl vx : Value) (w : World) (S : Nat → Prop) (hl : IsS w S l vl) (hx : IsV w S x vx) (hi0 : -9223372036854775808 ≤ i) (hi1 : i ≤ 9223372036854775807) (hl65 : l.length ≤ 65536) :
    Calls Tryd.prog 27 #[vl, .int .i64 i, vx] w fun e w' => ∃ v, e = .returned (.tuple #[v, .int .i64 (setE l i x)]) ∧ (setE l i x = 0 → IsS w' (Old w S) (l.set i.toNat x) v) ∧ (∃ A n c, v = .slice A n c ∧ (A = none → c = 0)) ∧ Below w.heap.size w w' := by
  obtain ⟨A, cA, rfl, hcA, hla, hA⟩ := hl
  obtain ⟨hbx, Ax, cx, rfl, hcx, hAx⟩ := hx.eq
  obtain ⟨w1, hw1, hB1, hsz, hb0⟩ := box0 w 33 (.int .i64 x.kind) (.int .i64 x.num) (.string x.text) (.slice Ax x.items.length cx)
  have hK1 : Keeps w S w1 (fun b => S b ∧ b < w.heap.size) := Keeps.below_to hB1 fun b h1 h2 => ⟨h2, h1⟩
  obtain ⟨e0, e1, e2, e3⟩ := block4 hb0
  have hX1 := (IsV.mk hbx hcx hAx).keep hK1
  have HR := Lib.hid (rightref_calls x _ w1 _ hX1)
  have HX := Lib.hid ((VC.mk hbx hcx hAx).keep hK1)
  have HA := Lib.hid (hA.keep hK1)
  have HB0 := Lib.hid hb0
  clear hX1 hAx hA hK1 hb0 hx
  by_cases hr : rightB x = true
  · rw [hr] at HR
    by_cases hneg : i < 0
    · rw [setE_out hr (by omega)]
      have h2 : decide (i < 0) = true := by simpa using hneg
      clear hr
      go_enter Tryd.func27, Tryd.ntmps27
      go_wp2_with (first | (go_at_call 66; refine HR.out.mono ?_; rintro e w2 ⟨rfl, hb2⟩))
      go_ret2
      exact ⟨_, rfl, by simp, ⟨_, _, _, rfl, fun _ => rfl⟩, below_then hB1 hB1.size hb2⟩
    · obtain ⟨j, rfl⟩ : ∃ j : Nat, i = (j : Int) := ⟨i.toNat, by omega⟩
      have h2 : decide ((j : Int) < 0) = false := by simp
      by_cases hj : j < l.length
      · rw [setE_in hr (by omega)]
        have hj2 : (j : Int) < (l.length : Int) := by omega
        have hj3 : ¬ (l.length : Int) ≤ (j : Int) := by omega
        simp only [Int.toNat_natCast]
        clear hr hneg
        go_enter Tryd.func27, Tryd.ntmps27
        go_wp2_with (first
          | (go_at_call 66; refine HR.out.mono ?_; rintro e w2 ⟨rfl, hb2⟩; have HA2 := Lib.hid (HA.out.below hb2); have hk2 := blockB hb2 HB0.out; have hs2 := hb2.size)
          | (at_builtin; refine append_many w2.heap.size (fun b => S b ∧ b < w.heap.size) rfl _ _ rfl (.slice none 0 0) [] l A cA rfl rfl (OwnL.nil _ _ _) (HA2.out.keep (Keeps.weak fun b h => ⟨h, by simp [Value.ownBlock]⟩)) (Nat.le_refl _) (by simp; omega) ?_; intro v1 w3 hO hg; rw [List.nil_append] at hO; have hb3 := Below.grown (Below.refl w2.heap.size w2) hg (Nat.le_refl _) (fun k e => by cases e); have hown := hO.own_lt; have hVC3 : VC w3 (fun b => (S b ∧ b < w.heap.size) ∧ some b ≠ v1.ownBlock) x _ := HX.out.keep ((Keeps.below hb2).trans (Keeps.below_to hb3 fun b hb hs => ⟨hs, fun e => by have := (hown b e.symm).1; omega⟩)); obtain ⟨g, c1, rfl, hc1, hgb, hgl, ⟨q0, q1, q2, q3, g0, g1, g2, g3⟩, hfz, hO4⟩ := hO.store hj hVC3; have hk3 := blockB hb3 hk2; obtain ⟨f0, f1, f2, f3⟩ := block4 hk3; have HO4 := Lib.hid hO4; have hpl := plus0 g; have hsz3 := hb3.size; clear hO hO4 hVC3 hown hk3))
        go_ret2
        refine ⟨_, rfl, fun _ => ?_, ⟨_, _, _, rfl, fun e => by cases e⟩, ?_⟩
        · have hI := HO4.out.is (S' := Old w S) (fun b h => .inl h) (fun b (h : w2.heap.size ≤ b) => .inr (by omega)) (by rw [List.length_set]; omega)
          exact hI
        · repeat refine Below.setCell ?_ (by simp; omega) _
          exact below_then (below_then hB1 hB1.size hb2) (below_then hB1 hB1.size hb2).size hb3
      · rw [setE_out hr (by omega)]
        have hj3 : (l.length : Int) ≤ (j : Int) := by omega
        clear hr hj
        go_enter Tryd.func27, Tryd.ntmps27
        go_wp2_with (first | (go_at_call 66; refine HR.out.mono ?_; rintro e w2 ⟨rfl, hb2⟩))
        go_ret2
        exact ⟨_, rfl, by simp, ⟨_, _, _, rfl, fun _ => rfl⟩, below_then hB1 hB1.size hb2⟩
  · rw [setE_bad hr]
    have hr2 : rightB x = false := by simpa using hr
    rw [hr2] at HR
    clear hr hr2
    go_enter Tryd.func27, Tryd.ntmps27
    go_wp2_with (first | (go_at_call 66; refine HR.out.mono ?_; rintro e w2 ⟨rfl, hb2⟩))
    go_ret2
    exact ⟨_, rfl, by simp, ⟨_, _, _, rfl, fun _ => rfl⟩, below_then hB1 hB1.size hb2⟩
/-- What the document says of a push. -/
theorem pushE_bad {l : List V} {x : V} (h : ¬ rightB x = true) : pushE l x = 3 := by unfold pushE; rw [if_neg h]
theorem pushE_long {l : List V} {x : V} (h : rightB x = true) (h2 : 65536 ≤ l.length) : pushE l x = 2 := by unfold pushE; rw [if_pos h, if_pos h2]
theorem pushE_ok {l : List V} {x : V} (h : rightB x = true) (h2 : ¬ 65536 ≤ l.length) : pushE l x = 0 := by unfold pushE; rw [if_pos h, if_neg h2]
set_option maxRecDepth 100000 in
set_option maxHeartbeats 4000000 in
theorem refpush_calls (l : List V) (x : V) (vl vx : Value) (w : World) (S : Nat → Prop) (hl : IsS w S l vl) (hx : IsV w S x vx) (hl65 : l.length ≤ 65536) :
    Calls Tryd.prog 29 #[vl, vx] w fun e w' => ∃ v, e = .returned (.tuple #[v, .int .i64 (pushE l x)]) ∧ (pushE l x = 0 → IsS w' (Old w S) (l ++ [x]) v) ∧ (∃ A n c, v = .slice A n c ∧ (A = none → c = 0)) ∧ Below w.heap.size w w' := by
  obtain ⟨A, cA, rfl, hcA, hla, hA⟩ := hl
  obtain ⟨hbx, Ax, cx, rfl, hcx, hAx⟩ := hx.eq
  obtain ⟨w1, hw1, hB1, hsz, hb0⟩ := box0 w 33 (.int .i64 x.kind) (.int .i64 x.num) (.string x.text) (.slice Ax x.items.length cx)
  have hK1 : Keeps w S w1 (fun b => S b ∧ b < w.heap.size) := Keeps.below_to hB1 fun b h1 h2 => ⟨h2, h1⟩
  obtain ⟨e0, e1, e2, e3⟩ := block4 hb0
  have hX1 := (IsV.mk hbx hcx hAx).keep hK1
  have HR := Lib.hid (rightref_calls x _ w1 _ hX1)
  have HX := Lib.hid ((VC.mk hbx hcx hAx).keep hK1)
  have HA := Lib.hid (hA.keep hK1)
  have HB0 := Lib.hid hb0
  clear hX1 hAx hA hK1 hb0 hx
  by_cases hr : rightB x = true
  · rw [hr] at HR
    by_cases h65 : 65536 ≤ l.length
    · rw [pushE_long hr h65]
      have h2 : ((l.length : Int) == 65536) = true := by rw [show l.length = 65536 by omega]; rfl
      clear hr h65 hl65 hla
      go_enter Tryd.func29, Tryd.ntmps29
      go_wp2_with (first | (go_at_call 66; refine HR.out.mono ?_; rintro e w2 ⟨rfl, hb2⟩))
      go_ret2
      exact ⟨_, rfl, by simp, ⟨_, _, _, rfl, fun _ => rfl⟩, below_then hB1 hB1.size hb2⟩
    · rw [pushE_ok hr h65]
      have h2 : ((l.length : Int) == 65536) = false := by simp; omega
      have HL := Lib.hid (show l.length ≤ 65535 by omega)
      clear hr h65 hl65 hla
      go_enter Tryd.func29, Tryd.ntmps29
      go_wp2_with (first
        | (go_at_call 66; refine HR.out.mono ?_; rintro e w2 ⟨rfl, hb2⟩; have HA2 := Lib.hid (HA.out.below hb2); have hk2 := blockB hb2 HB0.out; have hs2 := hb2.size)
        | (at_builtin; refine append_many w2.heap.size (fun b => S b ∧ b < w.heap.size) rfl _ _ rfl (.slice none 0 0) [] l A cA rfl rfl (OwnL.nil _ _ _) (HA2.out.keep (Keeps.weak fun b h => ⟨h, by simp [Value.ownBlock]⟩)) (Nat.le_refl _) (by have := HL.out; simp; omega) ?_; intro v1 w3 hO hg; rw [List.nil_append] at hO; have hb3 := Below.grown (Below.refl w2.heap.size w2) hg (Nat.le_refl _) (fun k e => by cases e); have hk3 := blockB hb3 hk2; obtain ⟨f0, f1, f2, f3⟩ := block4 hk3; have HO := Lib.hid hO; obtain ⟨A3, c3, rfl, hc3⟩ := hO.form; have hs3 := hb3.size; have hown := hO.own_lt; have HVC := Lib.hid (HX.out.keep (S' := fun b => (S b ∧ b < w.heap.size) ∧ some b ≠ (Value.slice A3 l.length c3).ownBlock) ((Keeps.below hb2).trans (Keeps.below_to hb3 fun b hb hs => ⟨hs, fun e => by have := (hown b e.symm).1; omega⟩))); clear hO hk3 hown)
        | (at_builtin; refine append_one w2.heap.size (fun b => S b ∧ b < w.heap.size) rfl _ _ rfl (.slice A3 l.length c3) l x _ _ _ _ rfl rfl HO.out HVC.out hs3 (by have := HL.out; omega) ?_; intro v4 w4 hO4 hg4; have hb4 := Below.grown hb3 hg4 hs3 (fun k hk => (HO.out.own_lt k hk).1); obtain ⟨A4, c4, rfl, hc4⟩ := hO4.form; have HO4 := Lib.hid hO4; clear hO4))
      go_ret2
      refine ⟨_, rfl, fun _ => ?_, ⟨A4, _, _, rfl, ?_⟩, below_then (below_then hB1 hB1.size hb2) (below_then hB1 hB1.size hb2).size hb4⟩
      · have hI := HO4.out.is (S' := Old w S) (fun b h => .inl h) (fun b (h : w2.heap.size ≤ b) => .inr (by omega)) (by have := HL.out; simp; omega)
        rwa [List.length_append, List.length_singleton] at hI
      · rintro rfl
        exact HO4.out.cap0
  · rw [pushE_bad hr]
    have hr2 : rightB x = false := by simpa using hr
    rw [hr2] at HR
    clear hr hr2
    go_enter Tryd.func29, Tryd.ntmps29
    go_wp2_with (first | (go_at_call 66; refine HR.out.mono ?_; rintro e w2 ⟨rfl, hb2⟩))
    go_ret2
    exact ⟨_, rfl, by simp, ⟨_, _, _, rfl, fun _ => rfl⟩, below_then hB1 hB1.size hb2⟩
set_option maxRecDepth 100000 in
set_option maxHeartbeats 4000000 in
theorem refpop_calls (l : List V) (vl : Value) (w : World) (S : Nat → Prop) (hl : IsS w S l vl) (hl65 : l.length ≤ 65536) :
    Calls Tryd.prog 31 #[vl] w fun e w' => ∃ v vx, e = .returned (.tuple #[v, vx, .int .i64 (popE l)]) ∧ IsV w' (Old w S) (popX l) vx ∧ (l ≠ [] → IsS w' (Old w S) l.dropLast v) ∧ (∃ A n c, v = .slice A n c ∧ (A = none → c = 0)) ∧ Below w.heap.size w w' := by
  obtain ⟨A, cA, rfl, hcA, hla, hA⟩ := hl
  obtain ⟨w1, hw1, hB1, hsz, hb0⟩ := box0 w 33 (.int .i64 0) (.int .i64 0) (.string ⟨#[]⟩) (.slice none 0 0)
  obtain ⟨e0, e1, e2, e3⟩ := block4 hb0
  have fz := free4 hb0
  by_cases h0 : l.length = 0
  · obtain rfl : l = [] := List.eq_nil_of_length_eq_zero h0
    clear hb0 hA
    go_enter Tryd.func31, Tryd.ntmps31
    go_wp2_with fail
    refine bodyPost_ret (v := .tuple #[.slice none 0 0, .agg #[.int .i64 0, .int .i64 0, .string ⟨#[]⟩, .slice none 0 0], .int .i64 6]) (by simp [results, Tryd.results31, go_sem, e0, e1, e2, e3]) rfl ⟨_, _, rfl, (show IsV _ _ V.zero _ from zero_is _ _), by simp, ⟨_, _, _, rfl, fun _ => rfl⟩, ?_⟩
    repeat refine Below.setCell ?_ (by simp) _
    exact hB1
  · have h1 : ((l.length : Int) == 0) = false := by simpa using h0
    have hpe : popE l = 0 := by unfold popE; rw [if_neg h0]
    have hpx : popX l = itemAt l (l.length - 1) := by
      unfold popX nthV
      rw [if_pos (by omega)]
      simp only
      congr 1
      omega
    rw [hpe, hpx]
    obtain ⟨ad, A1, cap1, rfl, hla', hbd, f0, f1, f2, f3, hcap1, hLA⟩ := (hA.keep (S' := fun b => S b ∧ b < w.heap.size) (Keeps.below_to hB1 fun b h1 h2 => ⟨h2, h1⟩)).at (l.length - 1) (by omega)
    have i1 : IntKind.i64.wrap ((l.length : Int) - 1) = (l.length : Int) - 1 := IntWalk.i64_in _ (by omega)
    have i2 : (1 : Int) ≤ (l.length : Int) := by omega
    have i3 : ((l.length : Int) - 1).toNat = l.length - 1 := by omega
    have i4 : (l.length : Int) - 1 ≤ (cA : Int) := by omega
    have i5 : l.length - 1 ≤ cA := by omega
    have i6 : (l.length : Int) - 1 < (l.length : Int) := by omega
    have i7 : l.length - 1 < l.length := by omega
    have HLA := Lib.hid hLA
    have HA := Lib.hid hA
    have HL := Lib.hid hl65
    have HB0 := Lib.hid hb0
    clear hb0 hA hpe hpx hLA hl65 hla
    go_enter Tryd.func31, Tryd.ntmps31
    go_wp2_with fail
    go_region
    all_goals go_wp2_with fail
    all_goals
      obtain ⟨w9, hw9, hk9, hs9, hot9, hbw9⟩ := store_box_drew (w := w1) HB0.out (.int .i64 (itemAt l (l.length - 1)).kind) (.int .i64 (itemAt l (l.length - 1)).num) (.string (itemAt l (l.length - 1)).text) (.slice A1 (itemAt l (l.length - 1)).items.length cap1)
      rw [hw9]
      clear hw9 e0 e1 e2 e3 fz f0 f1 f2 f3
      obtain ⟨e0, e1, e2, e3⟩ := block4 hk9
      have hK9 : Keeps w1 (fun b => S b ∧ b < w.heap.size) w9 (Old w S) := fun b hb hs => ⟨.inl hs, hot9 b (Nat.ne_of_lt hs.2)⟩
      have hB9 : Below w.heap.size w w9 := hB1.trans (hbw9 _ (Nat.le_refl _))
      have hv9 : IsV w9 (Old w S) (itemAt l (l.length - 1)) (.agg #[.int .i64 (itemAt l (l.length - 1)).kind, .int .i64 (itemAt l (l.length - 1)).num, .string (itemAt l (l.length - 1)).text, .slice A1 (itemAt l (l.length - 1)).items.length cap1]) := IsV.mk hbd hcap1 (HLA.out.keep hK9)
      have hd9 : IsS w9 (Old w S) l.dropLast (.slice (some ad) (l.length - 1) (l.length - 1)) := by
        have h3 := ((HA.out.take (l.length - 1)).keep (Keeps.below_to hB1 fun b h1 h2 => (⟨h2, h1⟩ : S b ∧ b < w.heap.size))).keep hK9
        rw [← List.dropLast_eq_take] at h3
        exact ⟨some ad, l.length - 1, by rw [List.length_dropLast], by rw [List.length_dropLast]; omega, by have := HL.out; rw [List.length_dropLast]; omega, h3⟩
      clear hK9 hot9 hbw9 hk9
      refine bodyPost_ret (v := .tuple #[.slice (some ad) (l.length - 1) (l.length - 1), .agg #[.int .i64 (itemAt l (l.length - 1)).kind, .int .i64 (itemAt l (l.length - 1)).num, .string (itemAt l (l.length - 1)).text, .slice A1 (itemAt l (l.length - 1)).items.length cap1], .int .i64 0]) (by simp [results, Tryd.results31, go_sem, e0, e1, e2, e3]) rfl ⟨_, _, rfl, hv9, fun _ => hd9, ⟨_, _, _, rfl, fun e => by cases e⟩, hB9⟩
end Go.Proofs.YtjjbhnkplbjfeaaDoor
