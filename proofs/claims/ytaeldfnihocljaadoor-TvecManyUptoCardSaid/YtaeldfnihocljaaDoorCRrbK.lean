/- What the law asks of a vector: has it just these items? The document's answer for one item. What the law takes of an iterator. An item stored. -/
import Derived.Test.YtaeldfnihocljaaDoorCRrbF
import Derived.Test.YtaeldfnihocljaaDoorCValC
import Derived.Test.YtaeldfnihocljaaDoorCRh
/- What the law asks of a vector: has it just these items? -/
set_option linter.unusedVariables false
set_option linter.unusedSimpArgs false
namespace Go.Proofs.YtaeldfnihocljaaDoor
open Go.RowKit
attribute [local go_sem] lt_succ_of

set_option maxRecDepth 100000 in
theorem vsame_calls (l m : List V) (h b : Nat) (vm : Value) (w : World) (S S' : Nat → Prop) (hr : IsR w S l h b) (hm : IsS w S' m vm) :
    Calls Tryd.prog 14 #[.pointer (some ⟨b, 0, none⟩), vm] w fun e w' => e = .returned (.bool (eqL l m)) ∧ Below w.heap.size w w' := by
  have HL := Lib.hid (len_calls l h b w S hr)
  have HR := Lib.hid hr
  have HM := Lib.hid hm
  have hl65 := hr.2.2.1
  obtain ⟨A, cA, rfl, hcA, hmA, hA⟩ := hm
  clear hA hr
  by_cases hl : l.length = m.length
  · have e1 : ((l.length : Int) == (m.length : Int)) = true := by simp [hl]
    obtain ⟨EX, hEX⟩ : ∃ b', eqL l m = b' := ⟨_, rfl⟩
    have HE := Lib.hid hEX
    rw [hEX]
    have e2 : (l.length == m.length) = true := by simp [hl]
    clear hl hEX
    go_enter Tryd.func14, Tryd.ntmps14
    go_wp2_with (first | (go_at_call 24; refine HL.out.mono ?_; rintro e w2 ⟨rfl, hb2⟩; have HR2 := Lib.hid (HR.out.below hb2); have HM2 := Lib.hid (HM.out.below hb2)) | (go_at_call 32; refine (items_calls l h b _ S HR2.out).mono ?_; rintro e w3 ⟨v, rfl, hv, hb3⟩; have HV := Lib.hid hv; have HM3 := Lib.hid (HM2.out.below hb3); have hb4 := below_then hb2 hb2.size hb3; clear hv) | (go_at_call 19; refine (sames_calls l m v _ _ _ _ HV.out HM3.out).mono ?_; rintro e w5 ⟨rfl, hb5⟩; rw [HE.out]))
    go_ret
    exact ⟨rfl, below_then hb4 hb4.size hb5⟩
  · have hne : eqL l m = false := by
      rcases Bool.eq_false_or_eq_true (eqL l m) with h | h
      · exact absurd (congrArg List.length ((eqL_iff _ _).1 h)) hl
      · exact h
    rw [hne]
    have e1 : ((l.length : Int) == (m.length : Int)) = false := by simp; omega
    have e2 : (l.length == m.length) = false := by simpa using hl
    clear hne
    have HNE := Lib.hid hl
    clear hl
    go_enter Tryd.func14, Tryd.ntmps14
    go_wp2_with (first | (go_at_call 24; refine HL.out.mono ?_; rintro e w2 ⟨rfl, hb2⟩))
    go_ret
    exact ⟨rfl, hb2⟩
end Go.Proofs.YtaeldfnihocljaaDoor

/- The document's answer for one item. -/
set_option linter.unusedVariables false
set_option linter.unusedSimpArgs false
namespace Go.Proofs.YtaeldfnihocljaaDoor
open Go.RowKit
attribute [local go_sem] lt_succ_of

set_option maxRecDepth 100000 in
theorem refnth_calls (l : List V) (i : Int) (vl : Value) (w : World) (S : Nat → Prop) (hl : IsS w S l vl) (hi0 : -9223372036854775808 ≤ i) (hi1 : i ≤ 9223372036854775807) :
    Calls Tryd.prog 16 #[vl, .int .i64 i] w fun e w' => ∃ v, e = .returned (.tuple #[v, .int .i64 (nthV l i).2]) ∧ IsV w' (fun b => S b ∨ w.heap.size ≤ b) (nthV l i).1 v ∧ Below w.heap.size w w' := by
  obtain ⟨A, cA, rfl, hcA, hla, hA⟩ := hl
  obtain ⟨w1, hw1, hB1, hsz, hb0⟩ := box0 w 31 (.int .i64 0) (.int .i64 0) (.string ⟨#[]⟩) (.slice none 0 0)
  obtain ⟨e0, e1, e2, e3⟩ := block4 hb0
  have fz := free4 hb0
  by_cases hneg : i < 0
  · have hz : nthV l i = (V.zero, 5) := by unfold nthV; rw [if_neg (by omega)]
    rw [hz]
    have h2 : decide (i < 0) = true := by simpa using hneg
    clear hb0 hA
    go_enter Tryd.func16, Tryd.ntmps16
    go_wp2_with fail
    refine bodyPost_ret (v := .tuple #[.agg #[.int .i64 0, .int .i64 0, .string ⟨#[]⟩, .slice none 0 0], .int .i64 5]) (by simp [results, Tryd.results16, go_sem, e0, e1, e2, e3]) rfl ⟨_, rfl, zero_is _ _, ?_⟩
    repeat refine Below.setCell ?_ (by simp) _
    exact hB1
  · obtain ⟨j, rfl⟩ : ∃ j : Nat, i = (j : Int) := ⟨i.toNat, by omega⟩
    have h2 : decide ((j : Int) < 0) = false := by simp
    by_cases hj : j < l.length
    · have hz : nthV l (j : Int) = (itemAt l j, 0) := by unfold nthV; rw [if_pos (by omega)]; simp
      rw [hz]
      obtain ⟨ad, A1, cap1, rfl, hla', hbd, f0, f1, f2, f3, hcap1, hLA⟩ := (hA.keep (S' := fun b => S b ∧ b < w.heap.size) (Keeps.below_to hB1 fun b h1 h2 => ⟨h2, h1⟩)).at j hj
      have hj2 : (j : Int) < (l.length : Int) := by omega
      have hj3 : ¬ (l.length : Int) ≤ (j : Int) := by omega
      have HLA := Lib.hid hLA
      clear hb0 hA hz hneg hLA
      go_enter Tryd.func16, Tryd.ntmps16
      go_wp2_with fail
      refine bodyPost_ret (v := .tuple #[.agg #[.int .i64 (itemAt l j).kind, .int .i64 (itemAt l j).num, .string (itemAt l j).text, .slice A1 (itemAt l j).items.length cap1], .int .i64 0]) (by simp [results, Tryd.results16, go_sem, e0, e1, e2, e3]) rfl ⟨_, rfl, ?_, ?_⟩
      · have hn : ¬ (fun b => S b ∧ b < w.heap.size) w.heap.size := fun h => absurd h.2 (Nat.lt_irrefl _)
        refine IsV.mk hbd hcap1 (HLA.out.keep (Keeps.trans (S1 := fun b => S b ∧ b < w.heap.size) ?_ (Keeps.weak fun b h => .inl h.1)))
        repeat refine Keeps.set_after ?_ hn _
        exact Keeps.refl _ _
      · repeat refine Below.setCell ?_ (by simp) _
        exact hB1
    · have hz : nthV l (j : Int) = (V.zero, 5) := by unfold nthV; rw [if_neg (by omega)]
      rw [hz]
      have hj2 : ¬ (j : Int) < (l.length : Int) := by omega
      have hj3 : (l.length : Int) ≤ (j : Int) := by omega
      clear hb0 hA hz hneg hj
      go_enter Tryd.func16, Tryd.ntmps16
      go_wp2_with fail
      refine bodyPost_ret (v := .tuple #[.agg #[.int .i64 0, .int .i64 0, .string ⟨#[]⟩, .slice none 0 0], .int .i64 5]) (by simp [results, Tryd.results16, go_sem, e0, e1, e2, e3]) rfl ⟨_, rfl, zero_is _ _, ?_⟩
      repeat refine Below.setCell ?_ (by simp) _
      exact hB1
end Go.Proofs.YtaeldfnihocljaaDoor

/- What the law takes of an iterator. -/
set_option linter.unusedVariables false
set_option linter.unusedSimpArgs false
namespace Go.Proofs.YtaeldfnihocljaaDoor
open Go.RowKit Go.Shelf
attribute [local go_sem] Oper.semAt_some lt_succ_of

theorem gotL_index {f : Int} : ∀ {l : List V} {p : Nat} {pre : List (Nat × V)} {k : Nat} {x : V}, pre ++ [(k, x)] <+: gotL f p l → k = max p f.toNat + pre.length
  | [], p, pre, k, x, h => by
    have := h.length_le
    simp [gotL] at this
  | y :: l, p, pre, k, x, h => by
    rw [gotL] at h
    by_cases hf : f ≤ (p : Int)
    · rw [if_pos hf] at h
      cases pre with
      | nil =>
        obtain ⟨t, ht⟩ := h
        simp at ht
        have := ht.1.1
        simp
        omega
      | cons q pre =>
        rw [List.cons_append, List.cons_append, List.nil_append, List.cons_prefix_cons] at h
        have := gotL_index h.2
        rw [List.length_cons]
        omega
    · rw [if_neg hf, List.nil_append] at h
      have := gotL_index h
      omega
theorem gotL_drop {f : Int} : ∀ {l : List V} {p : Nat}, (gotL f p l).map Prod.snd = l.drop (f.toNat - p)
  | [], p => by simp [gotL]
  | y :: l, p => by
    rw [gotL]
    by_cases hf : f ≤ (p : Int)
    · rw [if_pos hf, show f.toNat - p = 0 by omega, List.drop_zero, List.map_append, gotL_drop (l := l) (p := p + 1), show f.toNat - (p + 1) = 0 by omega]
      simp
    · rw [if_neg hf, List.nil_append, gotL_drop (l := l) (p := p + 1), show f.toNat - p = (f.toNat - (p + 1)) + 1 by omega, List.drop_succ_cons]
theorem eqFunc (X Y : Addr) (w : World) : (binOp .eql 95 (.func (.func 65) #[] #[.pointer (some X), .pointer (some Y)]) .nilFunc).run Tryd.prog w = .ok (.bool false) w := by kernel_rfl
attribute [local go_sem] eqFunc
/-- The boxes of gone. -/
theorem boxes5 (w : World) (c0 c1 c2 c3 c4 : Value) (t0 t1 t2 t3 t4 : TypeId) : ∃ w1, ((((w.alloc (.cells #[c0] t0)).alloc (.cells #[c1] t1)).alloc (.cells #[c2] t2)).alloc (.cells #[c3] t3)).alloc (.cells #[c4] t4) = w1 ∧ Below w.heap.size w w1 ∧ w1.heap.size = w.heap.size + 5 ∧
    w1.heap[w.heap.size]? = some (.cells #[c0] t0 (0, 0)) ∧ w1.heap[w.heap.size + 1]? = some (.cells #[c1] t1 (0, 0)) ∧ w1.heap[w.heap.size + 1 + 1]? = some (.cells #[c2] t2 (0, 0)) ∧ w1.heap[w.heap.size + 1 + 1 + 1]? = some (.cells #[c3] t3 (0, 0)) ∧ w1.heap[w.heap.size + 1 + 1 + 1 + 1]? = some (.cells #[c4] t4 (0, 0)) := by
  refine ⟨_, rfl, (((((Below.refl _ _).alloc (Nat.le_refl _) _).alloc (by simp) _).alloc (by simp <;> omega) _).alloc (by simp <;> omega) _).alloc (by simp <;> omega) _, by simp, ?_, ?_, ?_, ?_, ?_⟩
  · rw [Below.heap_alloc _ _ _ (by simp <;> omega), Below.heap_alloc _ _ _ (by simp <;> omega), Below.heap_alloc _ _ _ (by simp <;> omega), Below.heap_alloc _ _ _ (by simp)]
    exact heap_alloc_new w _
  · rw [Below.heap_alloc _ _ _ (by simp <;> omega), Below.heap_alloc _ _ _ (by simp <;> omega), Below.heap_alloc _ _ _ (by simp)]
    have := heap_alloc_new (w.alloc (.cells #[c0] t0)) (.cells #[c1] t1)
    simpa using this
  · rw [Below.heap_alloc _ _ _ (by simp <;> omega), Below.heap_alloc _ _ _ (by simp)]
    have := heap_alloc_new ((w.alloc (.cells #[c0] t0)).alloc (.cells #[c1] t1)) (.cells #[c2] t2)
    simpa using this
  · rw [Below.heap_alloc _ _ _ (by simp)]
    have := heap_alloc_new (((w.alloc (.cells #[c0] t0)).alloc (.cells #[c1] t1)).alloc (.cells #[c2] t2)) (.cells #[c3] t3)
    simpa using this
  · have := heap_alloc_new ((((w.alloc (.cells #[c0] t0)).alloc (.cells #[c1] t1)).alloc (.cells #[c2] t2)).alloc (.cells #[c3] t3)) (.cells #[c4] t4)
    simpa using this
set_option maxRecDepth 100000 in
set_option maxHeartbeats 8000000 in
theorem gone_calls (l : List V) (h b : Nat) (i : Int) (w : World) (S0 : Nat → Prop) (hr : IsR w S0 l h b) (hi0 : -9223372036854775808 ≤ i) (hi1 : i ≤ 9223372036854775807) :
    Calls Tryd.prog 18 #[.pointer (some ⟨b, 0, none⟩), .int .i64 i, .int .i64 ((l.length : Int) + 1)] w fun e w' => ∃ v, e = .returned (.tuple #[v, .bool true]) ∧ IsS w' (fun b => w.heap.size ≤ b) (l.drop i.toNat) v ∧ Below w.heap.size w w' := by
  obtain ⟨F0, hF0⟩ : ∃ n : Nat, n = i.toNat := ⟨_, rfl⟩
  obtain ⟨M, hM⟩ : ∃ M : List V, l.drop i.toNat = M := ⟨_, rfl⟩
  have HM : Hid ((gotL i 0 l).map Prod.snd = M) := Lib.hid (by rw [gotL_drop]; exact hM)
  have HML : Hid (M.length ≤ l.length) := Lib.hid (by rw [← hM, List.length_drop]; omega)
  rw [hM]
  have HF0 := Lib.hid hF0
  clear hF0 hM
  refine (callsIn_wide (n := 9)).1 ?_
  have hl65 := hr.2.2.1
  have hrS : IsR w (fun b => S0 b ∧ b < w.heap.size) l h b := hr.keep fun b hb hs => ⟨⟨hs, hb⟩, rfl⟩
  clear hr
  refine callsIn_of_wp_marks Tryd.func18 rfl trivial ?_ rfl
  simp only [Tryd.ntmps18, List.size_toArray, List.length_cons, List.length_nil, Nat.reduceAdd, Nat.reduceSub, Array.replicate_succ, Array.replicate_zero, List.push_toArray, List.append_toArray, List.nil_append, List.cons_append]
  obtain ⟨w1, hw1, hB1, hsz, k0, k1, k2, k3, k4⟩ := boxes5 w (.int .i64 i) (.int .i64 ((l.length : Int) + 1)) (.slice none 0 0) (.bool false) (.slice none 0 0) 3 3 22 4 22
  have HC := Lib.hid (callsIn_wide (n := 8).2 (from_calls (some ⟨b, 0, none⟩) i w1))
  have c0 : w1.cell? ⟨w.heap.size, 0, none⟩ = some (.int .i64 i) := by simp [World.cell?, k0]
  have c1 : w1.cell? ⟨w.heap.size + 1, 0, none⟩ = some (.int .i64 ((l.length : Int) + 1)) := by simp [World.cell?, k1]
  have hm : ¬ ((l.length : Int) + 1 < 1) := by omega
  have K := Lib.hid (And.intro k0 (And.intro k1 (And.intro k2 (And.intro k3 k4))))
  clear k0 k1 k2 k3 k4
  by_cases hneg : i < 0
  · gi_wp2_with (first | (refine ⟨trivial, ?_⟩; gi_at_call 50; refine HC.out.mono ?_; rintro e w2 ⟨rfl, hX, hY, hb2⟩; have HX := Lib.hid hX; have HY := Lib.hid hY; have d0 := cellB hb2 c0; have d1 := cellB hb2 c1; have f0 := free4 (blockB hb2 K.out.1); clear hX hY c0 c1))
    have hB2 := below_then hB1 hB1.size hb2
    have hs2 := hb2.size
    obtain ⟨wR, hwR⟩ : ∃ wR, wR = w2.setCell ⟨w.heap.size, 0, none⟩ (.int .i64 0) := ⟨_, rfl⟩
    rw [← hwR]
    have hBR : Below w.heap.size w wR := by rw [hwR]; exact hB2.setCell (Nat.le_refl _) _
    have hRs : w2.heap.size ≤ wR.heap.size := by rw [hwR]; simp
    have hz : (F0 : Int) = 0 := by have := HF0.out; omega
    have cp : ∀ k o, k ≠ w.heap.size → w2.heap[k]? = some o → wR.heap[k]? = some o := fun k o hk ho => by rw [hwR]; exact blockother ho (p := ⟨w.heap.size, 0, none⟩) hk _
    have r0 : wR.heap[w.heap.size]? = some (.cells #[.int .i64 (F0 : Int)] 3 (0, 0)) := by rw [hwR, hz]; exact blockset (blockB hb2 K.out.1) 0 _
    have r1 := cp _ _ (by omega) (blockB hb2 K.out.2.1)
    have r2 := cp _ _ (by omega) (blockB hb2 K.out.2.2.1)
    have r3 := cp _ _ (by omega) (blockB hb2 K.out.2.2.2.1)
    have r4 := cp _ _ (by omega) (blockB hb2 K.out.2.2.2.2)
    have HXR := Lib.hid (cp _ _ (by omega) HX.out)
    have HYR := Lib.hid (cp _ _ (by omega) HY.out)
    rw [hsz] at HXR HYR
    clear cp
    have KR := Lib.hid (And.intro r0 (And.intro r1 (And.intro r2 (And.intro r3 r4))))
    have hszR := hBR.size
    clear r0 r1 r2 r3 r4 hz
    try clear hwR
    refine range_law 9 (gf := 65) (lb := #[.pointer (some ⟨w.heap.size + 5, 0, none⟩), .pointer (some ⟨w.heap.size + 5 + 1, 0, none⟩)]) rfl enters_from (G := gotL i 0 l) (S := fun b => S0 b ∧ b < w.heap.size)
      (from_each l h b i _ _ _ wR HXR.out HYR.out (hrS.below hBR) hi0 hi1) rfl
      (fun pre W => (W.heap[w.heap.size]? = some (.cells #[.int .i64 (F0 : Int)] 3 (0, 0)) ∧ W.heap[w.heap.size + 1]? = some (.cells #[.int .i64 ((l.length : Int) + 1)] 3 (0, 0)) ∧ W.heap[w.heap.size + 1 + 1]? = some (.cells #[.slice none 0 0] 22 (0, 0)) ∧ W.heap[w.heap.size + 1 + 1 + 1]? = some (.cells #[.bool false] 4 (0, 0))) ∧
        (∃ v, W.heap[w.heap.size + 1 + 1 + 1 + 1]? = some (.cells #[v] 22 (0, 0)) ∧ OwnL W (wR.heap.size + 2) (fun b => wR.heap.size + 2 ≤ b) (pre.map Prod.snd) v) ∧ Below w.heap.size w W ∧ wR.heap.size ≤ W.heap.size)
      (fun _ _ _ => False) ?hI (fun _ _ _ _ h _ => h) ⟨⟨KR.out.1, KR.out.2.1, KR.out.2.2.1, KR.out.2.2.2.1⟩, ⟨_, KR.out.2.2.2.2, OwnL.nil _ _ _⟩, hBR, Nat.le_refl _⟩ ?round ?done (fun _ _ _ _ _ _ h _ => h.elim)
    case hI =>
      rintro s W W' ⟨⟨q0, q1, q2, q3⟩, ⟨v, hv, hown⟩, hbel, hsz3⟩ hg
      have hcp : ∀ k o, k < wR.heap.size → W.heap[k]? = some o → W'.heap[k]? = some o := fun k o hk ho => (hg.block k (by omega) (fun e => by injection e with e; omega)).trans ho
      refine ⟨⟨hcp _ _ (by omega) q0, hcp _ _ (by omega) q1, hcp _ _ (by omega) q2, hcp _ _ (by omega) q3⟩, ⟨v, hcp _ _ (by omega) hv, hown.keep (Keeps.grown hg fun k e (h : wR.heap.size + 2 ≤ k) => by injection e with e; omega) fun k hk => hg.block k (hown.own_lt k hk).2 (fun e => by injection e with e; have := (hown.own_lt k hk).1; omega)⟩, hbel.grown hg hbel.size (fun k hk => by injection hk with hk; omega), Nat.le_trans hsz3 hg.size⟩
    case round =>
      rintro l0 pre k x v W0 W m ⟨⟨q0, q1, q2, q3⟩, ⟨v0, hv0, hown⟩, hbel, hsz0⟩ hW hszW hv hpre
      obtain ⟨hbd, A, cap, rfl, hcap, hLA⟩ := hv.eq
      gi_wp2
      refine ⟨(Below.refl _ _).alloc (Nat.le_refl _) _, ?_⟩
      rintro Wb hgb ⟨⟨p0, p1, p2, p3⟩, ⟨v, hvb, hob⟩, hbelb, hszb⟩
      have hsW := hW.size
      have hne : W.heap.size ≠ wR.heap.size + 1 := by omega
      have hbx : Wb.heap[W.heap.size]? = some (.cells #[.int .i64 x.kind, .int .i64 x.num, .string x.text, .slice A x.items.length cap] 31 (0, 0)) := (hgb.block W.heap.size (by simp) (fun e => hne (by injection e))).trans (heap_alloc_new W _)
      have hvv : v = v0 := by
        have h1 := (hgb.block (w.heap.size + 1 + 1 + 1 + 1) (by simp; omega) (fun e => by injection e with e; omega)).symm.trans hvb
        rw [Below.heap_alloc _ _ _ (by omega), hW.block (w.heap.size + 1 + 1 + 1 + 1) (by omega), hv0] at h1
        injection h1 with h1
        injection h1 with h1
        injection h1 with h1
        injection h1 with h1
        exact h1.symm
      subst hvv
      have hown2 := hown.own_lt
      obtain ⟨A2, c2, rfl, hc2⟩ := hob.form
      have hKy : Keeps W (fun b => W0.heap.size ≤ b) Wb (fun b => wR.heap.size + 2 ≤ b ∧ some b ≠ (Value.slice A2 (pre.map Prod.snd).length c2).ownBlock) := by
        refine ((Keeps.alloc _).trans (Keeps.grown hgb fun k e (h : W0.heap.size ≤ k) => by injection e with e; omega)).trans (Keeps.weak fun b (h : W0.heap.size ≤ b) => ⟨by omega, fun e => by have := (hown2 b e.symm).2; omega⟩)
      have hy := VC.mk hbd hcap (hLA.keep hKy)
      have hplen : pre.length + 1 ≤ l.length := by
        have h1 := hpre.length_le
        have h2 := gotL_length i l 0
        rw [List.length_append] at h1
        simp at h1
        omega
      have hidx := gotL_index hpre
      have hwb := hgb.size
      simp only [World.size_alloc] at hwb
      have g0 : Wb.cell? ⟨w.heap.size, 0, none⟩ = some (.int .i64 (F0 : Int)) := by simp [World.cell?, p0]
      have g1 : Wb.cell? ⟨w.heap.size + 1 + 1 + 1 + 1, 0, none⟩ = some (.slice A2 (pre.map Prod.snd).length c2) := by simp [World.cell?, hvb]
      have g2 : (F0 : Int) + (pre.length : Int) = (k : Int) := by rw [hidx]; have := HF0.out; omega
      have hil : F0 ≤ 4294967296 := by
        have h1 := gotL_drop (f := i) (l := l) (p := 0)
        have h2 := congrArg List.length h1
        rw [List.length_map, List.length_drop] at h2
        have h3 := hpre.length_le
        rw [List.length_append] at h3
        simp at h3
        have := HF0.out
        omega
      have G2 := Lib.hid hidx
      clear hidx
      gi_wp2
      refine round_gone l0 m Wb (wR.heap.size + 2) (fun b => wR.heap.size + 2 ≤ b) (w.heap.size + 1 + 1 + 1 + 1) W.heap.size (pre.map Prod.snd) A2 c2 x _ _ _ _ _ _ _ _ _ _ _ _ _ _ _ _ _ _ _ _ _ _ _ _ _ _ _ _ _ _ _ _ _ _ _ _ _ _ _ _ _ _ _ _ _ _ hvb hbx rfl ⟨_, _, _, rfl⟩ hob (by omega) (by simp; omega) (by omega) (fun e => by have := (hown2 _ e).1; omega) (fun e => by have := (hown2 _ e).2; omega) hy ?_
      intro g cap1 W' h1 h2 h3
      have hc8 : W'.cell? ⟨w.heap.size + 1 + 1 + 1 + 1, 0, none⟩ = some (.slice (some ⟨g, 0, none⟩) ((pre.map Prod.snd).length + 1) cap1) := by simp [World.cell?, h1]
      have hcp : ∀ k o, k < wR.heap.size → k ≠ w.heap.size + 1 + 1 + 1 + 1 → Wb.heap[k]? = some o → W'.heap[k]? = some o := fun k o hk hne ho => (h3.block k (by omega) hne (fun e => by have := (hown2 k e.symm).1; omega)).trans ho
      have z0 := hcp _ _ (by omega) (by omega) p0
      have z1 := hcp _ _ (by omega) (by omega) p1
      have z2 := hcp _ _ (by omega) (by omega) p2
      have z3 := hcp _ _ (by omega) (by omega) p3
      have hc5 : W'.cell? ⟨w.heap.size + 1, 0, none⟩ = some (.int .i64 ((l.length : Int) + 1)) := by simp [World.cell?, z1]
      have hge : ¬ ((l.length : Int) + 1 ≤ (pre.length : Int) + 1) := by omega
      have hge2 : (pre.length : Int) + 1 < (l.length : Int) + 1 := by omega
      have hge3 : pre.length < l.length := by omega
      have HP := Lib.hid (And.intro p0 (And.intro p1 (And.intro p2 p3)))
      clear p0 p1 p2 p3
      gi_wp2
      refine ⟨⟨h3.size, fun k o hk ho hoc => ?_⟩, ⟨h3.size, fun k hk hs => ?_⟩, ⟨⟨z0, z1, z2, z3⟩, ⟨_, h1, by rw [List.map_append]; exact h2⟩, ⟨h3.os.trans hbelb.os, h3.tape.trans hbelb.tape, h3.output.trans hbelb.output, Nat.le_trans hbelb.size h3.size, fun k hk => ?_⟩, Nat.le_trans hszb h3.size⟩⟩
      · have hkl := (Array.getElem?_eq_some_iff.1 ho).1
        refine (h3.block k hkl (fun e => ?_) (fun e => ?_)).trans ho
        · omega
        · obtain ⟨xs, ⟨_, hh⟩, _⟩ := hob
          rcases hh with ⟨hh, _⟩ | ⟨g, cap', cur, hh, hg1, hg2, _⟩
          · rw [hh] at e; cases e
          · rw [hh] at e
            injection e with e
            subst e
            rw [hg2] at ho
            cases ho
            cases hoc
      · exact h3.block k (by omega) (by have := hs.2; omega) (fun e => by have := (hown2 k e.symm).1; omega)
      · rw [h3.block k (by omega) (by omega) (fun e => by have := (hown2 k e.symm).1; omega)]
        exact hbelb.block k hk
    case done =>
      rintro D W hD ⟨⟨q0, q1, q2, q3⟩, ⟨v, hv, hown⟩, hbel, hszD⟩ hK
      obtain ⟨A2, c2, rfl, hc2⟩ := hown.form
      have hgl : (gotL i 0 l).map Prod.snd = M := HM.out
      rw [hgl] at hv hown hc2
      have hcv : W.cell? ⟨w.heap.size + 1 + 1 + 1 + 1, 0, none⟩ = some (.slice A2 M.length c2) := by simp [World.cell?, hv]
      have hc6 : W.cell? ⟨w.heap.size + 1 + 1, 0, none⟩ = some (.slice none 0 0) := by simp [World.cell?, q2]
      have hc7 : W.cell? ⟨w.heap.size + 1 + 1 + 1, 0, none⟩ = some (.bool false) := by simp [World.cell?, q3]
      have fz6 := free4 q2
      have fz7 := free4 q3
      have HO := Lib.hid hown
      have HV := Lib.hid hv
      have HQ := Lib.hid (And.intro q2 q3)
      clear hown hv q2 q3
      gi_wp2
      have hlen := (Array.getElem?_eq_some_iff.1 HV.out).1
      obtain ⟨W5, hW5⟩ : ∃ W5, W5 = (W.setCell ⟨w.heap.size + 1 + 1, 0, none⟩ (.slice A2 M.length c2)).setCell ⟨w.heap.size + 1 + 1 + 1, 0, none⟩ (.bool true) := ⟨_, rfl⟩
      rw [← hW5]
      have hb5 : Below w.heap.size W W5 := by rw [hW5]; exact ((Below.refl _ _).setCell (by simp; omega) _).setCell (by simp; omega) _
      have hD5 : W5.heap[D]? = some (.deferred (some [])) := by
        rw [hW5]
        exact blockother (blockother hK (p := ⟨w.heap.size + 1 + 1, 0, none⟩) (by simp; omega) _) (p := ⟨w.heap.size + 1 + 1 + 1, 0, none⟩) (by simp; omega) _
      have q6 : W5.heap[w.heap.size + 1 + 1]? = some (.cells #[.slice A2 M.length c2] 22 (0, 0)) := by
        rw [hW5]
        exact blockother (blockset HQ.out.1 0 _) (p := ⟨w.heap.size + 1 + 1 + 1, 0, none⟩) (by simp) _
      have q7 : W5.heap[w.heap.size + 1 + 1 + 1]? = some (.cells #[.bool true] 4 (0, 0)) := by
        rw [hW5]
        exact blockset (blockother HQ.out.2 (p := ⟨w.heap.size + 1 + 1, 0, none⟩) (by simp) _) 0 _
      have hO5 : OwnL W5 (wR.heap.size + 2) (fun b => wR.heap.size + 2 ≤ b) M (.slice A2 M.length c2) := by
        rw [hW5]
        exact (HO.out.set (by simp; omega) (fun k hk e => by have := (HO.out.own_lt k hk).1; simp at e; omega) _).set (by simp; omega) (fun k hk e => by have := ((HO.out.set (p := ⟨w.heap.size + 1 + 1, 0, none⟩) (u := .slice A2 M.length c2) (by simp; omega) (fun k hk e => by have := (HO.out.own_lt k hk).1; simp at e; omega)).own_lt k hk).1; simp at e; omega) _
      refine ⟨by simp, .inl ⟨_, _, rfl, run_takeDeferred hD5, ?_⟩⟩
      have hg := grownBy_putObj' W5 D (.deferred none)
      have hO2 : OwnL (W5.putObj D (.deferred none)) (wR.heap.size + 2) (fun b => wR.heap.size + 2 ≤ b) M (.slice A2 M.length c2) :=
        hO5.keep (Keeps.grown hg fun k e (h : wR.heap.size + 2 ≤ k) => by injection e with e; omega) fun k hk => hg.block k (hO5.own_lt k hk).2 (fun e => by injection e with e; have := (hO5.own_lt k hk).1; omega)
      have hI : IsS (W5.putObj D (.deferred none)) (fun b => w.heap.size ≤ b) M (.slice A2 M.length c2) := hO2.is (fun b (h : wR.heap.size + 2 ≤ b) => show w.heap.size ≤ b by omega) (fun b (h : wR.heap.size + 2 ≤ b) => show w.heap.size ≤ b by omega) (by have := HML.out; omega)
      have y6 : (W5.putObj D (.deferred none)).cell? ⟨w.heap.size + 1 + 1, 0, none⟩ = some (.slice A2 M.length c2) := by
        have := (hg.block _ (Array.getElem?_eq_some_iff.1 q6).1 (fun e => by injection e with e; omega)).trans q6
        simp [World.cell?, this]
      have y7 : (W5.putObj D (.deferred none)).cell? ⟨w.heap.size + 1 + 1 + 1, 0, none⟩ = some (.bool true) := by
        have := (hg.block _ (Array.getElem?_eq_some_iff.1 q7).1 (fun e => by injection e with e; omega)).trans q7
        simp [World.cell?, this]
      have hbF : Below w.heap.size w (W5.putObj D (.deferred none)) := by
        have hb6 : Below w.heap.size w W5 := hbel.trans hb5
        exact hb6.grown hg hb6.size (fun k hk => by injection hk with hk; omega)
      exact ⟨.tuple #[.slice A2 M.length c2, .bool true], by simp [results, Tryd.results18, go_sem, y6, y7], .slice A2 M.length c2, rfl, hI, hbF⟩
  · gi_wp2_with (first | (refine ⟨trivial, ?_⟩; gi_at_call 50; refine HC.out.mono ?_; rintro e w2 ⟨rfl, hX, hY, hb2⟩; have HX := Lib.hid hX; have HY := Lib.hid hY; have d0 := cellB hb2 c0; have d1 := cellB hb2 c1; have f0 := free4 (blockB hb2 K.out.1); clear hX hY c0 c1))
    have hB2 := below_then hB1 hB1.size hb2
    have hs2 := hb2.size
    obtain ⟨wR, hwR⟩ : ∃ wR, wR = w2 := ⟨_, rfl⟩
    rw [← hwR]
    have hBR : Below w.heap.size w wR := by rw [hwR]; exact hB2
    have hRs : w2.heap.size ≤ wR.heap.size := by rw [hwR]; exact Nat.le_refl _
    have hz : (F0 : Int) = i := by have := HF0.out; omega
    subst hwR
    have r0 : wR.heap[w.heap.size]? = some (.cells #[.int .i64 (F0 : Int)] 3 (0, 0)) := by rw [hz]; exact blockB hb2 K.out.1
    have r1 := (blockB hb2 K.out.2.1)
    have r2 := (blockB hb2 K.out.2.2.1)
    have r3 := (blockB hb2 K.out.2.2.2.1)
    have r4 := (blockB hb2 K.out.2.2.2.2)
    have HXR := HX
    have HYR := HY
    rw [hsz] at HXR HYR
    have KR := Lib.hid (And.intro r0 (And.intro r1 (And.intro r2 (And.intro r3 r4))))
    have hszR := hBR.size
    clear r0 r1 r2 r3 r4 hz
    try clear hwR
    refine range_law 9 (gf := 65) (lb := #[.pointer (some ⟨w.heap.size + 5, 0, none⟩), .pointer (some ⟨w.heap.size + 5 + 1, 0, none⟩)]) rfl enters_from (G := gotL i 0 l) (S := fun b => S0 b ∧ b < w.heap.size)
      (from_each l h b i _ _ _ wR HXR.out HYR.out (hrS.below hBR) hi0 hi1) rfl
      (fun pre W => (W.heap[w.heap.size]? = some (.cells #[.int .i64 (F0 : Int)] 3 (0, 0)) ∧ W.heap[w.heap.size + 1]? = some (.cells #[.int .i64 ((l.length : Int) + 1)] 3 (0, 0)) ∧ W.heap[w.heap.size + 1 + 1]? = some (.cells #[.slice none 0 0] 22 (0, 0)) ∧ W.heap[w.heap.size + 1 + 1 + 1]? = some (.cells #[.bool false] 4 (0, 0))) ∧
        (∃ v, W.heap[w.heap.size + 1 + 1 + 1 + 1]? = some (.cells #[v] 22 (0, 0)) ∧ OwnL W (wR.heap.size + 2) (fun b => wR.heap.size + 2 ≤ b) (pre.map Prod.snd) v) ∧ Below w.heap.size w W ∧ wR.heap.size ≤ W.heap.size)
      (fun _ _ _ => False) ?hI (fun _ _ _ _ h _ => h) ⟨⟨KR.out.1, KR.out.2.1, KR.out.2.2.1, KR.out.2.2.2.1⟩, ⟨_, KR.out.2.2.2.2, OwnL.nil _ _ _⟩, hBR, Nat.le_refl _⟩ ?round ?done (fun _ _ _ _ _ _ h _ => h.elim)
    case hI =>
      rintro s W W' ⟨⟨q0, q1, q2, q3⟩, ⟨v, hv, hown⟩, hbel, hsz3⟩ hg
      have hcp : ∀ k o, k < wR.heap.size → W.heap[k]? = some o → W'.heap[k]? = some o := fun k o hk ho => (hg.block k (by omega) (fun e => by injection e with e; omega)).trans ho
      refine ⟨⟨hcp _ _ (by omega) q0, hcp _ _ (by omega) q1, hcp _ _ (by omega) q2, hcp _ _ (by omega) q3⟩, ⟨v, hcp _ _ (by omega) hv, hown.keep (Keeps.grown hg fun k e (h : wR.heap.size + 2 ≤ k) => by injection e with e; omega) fun k hk => hg.block k (hown.own_lt k hk).2 (fun e => by injection e with e; have := (hown.own_lt k hk).1; omega)⟩, hbel.grown hg hbel.size (fun k hk => by injection hk with hk; omega), Nat.le_trans hsz3 hg.size⟩
    case round =>
      rintro l0 pre k x v W0 W m ⟨⟨q0, q1, q2, q3⟩, ⟨v0, hv0, hown⟩, hbel, hsz0⟩ hW hszW hv hpre
      obtain ⟨hbd, A, cap, rfl, hcap, hLA⟩ := hv.eq
      gi_wp2
      refine ⟨(Below.refl _ _).alloc (Nat.le_refl _) _, ?_⟩
      rintro Wb hgb ⟨⟨p0, p1, p2, p3⟩, ⟨v, hvb, hob⟩, hbelb, hszb⟩
      have hsW := hW.size
      have hne : W.heap.size ≠ wR.heap.size + 1 := by omega
      have hbx : Wb.heap[W.heap.size]? = some (.cells #[.int .i64 x.kind, .int .i64 x.num, .string x.text, .slice A x.items.length cap] 31 (0, 0)) := (hgb.block W.heap.size (by simp) (fun e => hne (by injection e))).trans (heap_alloc_new W _)
      have hvv : v = v0 := by
        have h1 := (hgb.block (w.heap.size + 1 + 1 + 1 + 1) (by simp; omega) (fun e => by injection e with e; omega)).symm.trans hvb
        rw [Below.heap_alloc _ _ _ (by omega), hW.block (w.heap.size + 1 + 1 + 1 + 1) (by omega), hv0] at h1
        injection h1 with h1
        injection h1 with h1
        injection h1 with h1
        injection h1 with h1
        exact h1.symm
      subst hvv
      have hown2 := hown.own_lt
      obtain ⟨A2, c2, rfl, hc2⟩ := hob.form
      have hKy : Keeps W (fun b => W0.heap.size ≤ b) Wb (fun b => wR.heap.size + 2 ≤ b ∧ some b ≠ (Value.slice A2 (pre.map Prod.snd).length c2).ownBlock) := by
        refine ((Keeps.alloc _).trans (Keeps.grown hgb fun k e (h : W0.heap.size ≤ k) => by injection e with e; omega)).trans (Keeps.weak fun b (h : W0.heap.size ≤ b) => ⟨by omega, fun e => by have := (hown2 b e.symm).2; omega⟩)
      have hy := VC.mk hbd hcap (hLA.keep hKy)
      have hplen : pre.length + 1 ≤ l.length := by
        have h1 := hpre.length_le
        have h2 := gotL_length i l 0
        rw [List.length_append] at h1
        simp at h1
        omega
      have hidx := gotL_index hpre
      have hwb := hgb.size
      simp only [World.size_alloc] at hwb
      have g0 : Wb.cell? ⟨w.heap.size, 0, none⟩ = some (.int .i64 (F0 : Int)) := by simp [World.cell?, p0]
      have g1 : Wb.cell? ⟨w.heap.size + 1 + 1 + 1 + 1, 0, none⟩ = some (.slice A2 (pre.map Prod.snd).length c2) := by simp [World.cell?, hvb]
      have g2 : (F0 : Int) + (pre.length : Int) = (k : Int) := by rw [hidx]; have := HF0.out; omega
      have hil : F0 ≤ 4294967296 := by
        have h1 := gotL_drop (f := i) (l := l) (p := 0)
        have h2 := congrArg List.length h1
        rw [List.length_map, List.length_drop] at h2
        have h3 := hpre.length_le
        rw [List.length_append] at h3
        simp at h3
        have := HF0.out
        omega
      have G2 := Lib.hid hidx
      clear hidx
      gi_wp2
      refine round_gone l0 m Wb (wR.heap.size + 2) (fun b => wR.heap.size + 2 ≤ b) (w.heap.size + 1 + 1 + 1 + 1) W.heap.size (pre.map Prod.snd) A2 c2 x _ _ _ _ _ _ _ _ _ _ _ _ _ _ _ _ _ _ _ _ _ _ _ _ _ _ _ _ _ _ _ _ _ _ _ _ _ _ _ _ _ _ _ _ _ _ hvb hbx rfl ⟨_, _, _, rfl⟩ hob (by omega) (by simp; omega) (by omega) (fun e => by have := (hown2 _ e).1; omega) (fun e => by have := (hown2 _ e).2; omega) hy ?_
      intro g cap1 W' h1 h2 h3
      have hc8 : W'.cell? ⟨w.heap.size + 1 + 1 + 1 + 1, 0, none⟩ = some (.slice (some ⟨g, 0, none⟩) ((pre.map Prod.snd).length + 1) cap1) := by simp [World.cell?, h1]
      have hcp : ∀ k o, k < wR.heap.size → k ≠ w.heap.size + 1 + 1 + 1 + 1 → Wb.heap[k]? = some o → W'.heap[k]? = some o := fun k o hk hne ho => (h3.block k (by omega) hne (fun e => by have := (hown2 k e.symm).1; omega)).trans ho
      have z0 := hcp _ _ (by omega) (by omega) p0
      have z1 := hcp _ _ (by omega) (by omega) p1
      have z2 := hcp _ _ (by omega) (by omega) p2
      have z3 := hcp _ _ (by omega) (by omega) p3
      have hc5 : W'.cell? ⟨w.heap.size + 1, 0, none⟩ = some (.int .i64 ((l.length : Int) + 1)) := by simp [World.cell?, z1]
      have hge : ¬ ((l.length : Int) + 1 ≤ (pre.length : Int) + 1) := by omega
      have hge2 : (pre.length : Int) + 1 < (l.length : Int) + 1 := by omega
      have hge3 : pre.length < l.length := by omega
      have HP := Lib.hid (And.intro p0 (And.intro p1 (And.intro p2 p3)))
      clear p0 p1 p2 p3
      gi_wp2
      refine ⟨⟨h3.size, fun k o hk ho hoc => ?_⟩, ⟨h3.size, fun k hk hs => ?_⟩, ⟨⟨z0, z1, z2, z3⟩, ⟨_, h1, by rw [List.map_append]; exact h2⟩, ⟨h3.os.trans hbelb.os, h3.tape.trans hbelb.tape, h3.output.trans hbelb.output, Nat.le_trans hbelb.size h3.size, fun k hk => ?_⟩, Nat.le_trans hszb h3.size⟩⟩
      · have hkl := (Array.getElem?_eq_some_iff.1 ho).1
        refine (h3.block k hkl (fun e => ?_) (fun e => ?_)).trans ho
        · omega
        · obtain ⟨xs, ⟨_, hh⟩, _⟩ := hob
          rcases hh with ⟨hh, _⟩ | ⟨g, cap', cur, hh, hg1, hg2, _⟩
          · rw [hh] at e; cases e
          · rw [hh] at e
            injection e with e
            subst e
            rw [hg2] at ho
            cases ho
            cases hoc
      · exact h3.block k (by omega) (by have := hs.2; omega) (fun e => by have := (hown2 k e.symm).1; omega)
      · rw [h3.block k (by omega) (by omega) (fun e => by have := (hown2 k e.symm).1; omega)]
        exact hbelb.block k hk
    case done =>
      rintro D W hD ⟨⟨q0, q1, q2, q3⟩, ⟨v, hv, hown⟩, hbel, hszD⟩ hK
      obtain ⟨A2, c2, rfl, hc2⟩ := hown.form
      have hgl : (gotL i 0 l).map Prod.snd = M := HM.out
      rw [hgl] at hv hown hc2
      have hcv : W.cell? ⟨w.heap.size + 1 + 1 + 1 + 1, 0, none⟩ = some (.slice A2 M.length c2) := by simp [World.cell?, hv]
      have hc6 : W.cell? ⟨w.heap.size + 1 + 1, 0, none⟩ = some (.slice none 0 0) := by simp [World.cell?, q2]
      have hc7 : W.cell? ⟨w.heap.size + 1 + 1 + 1, 0, none⟩ = some (.bool false) := by simp [World.cell?, q3]
      have fz6 := free4 q2
      have fz7 := free4 q3
      have HO := Lib.hid hown
      have HV := Lib.hid hv
      have HQ := Lib.hid (And.intro q2 q3)
      clear hown hv q2 q3
      gi_wp2
      have hlen := (Array.getElem?_eq_some_iff.1 HV.out).1
      obtain ⟨W5, hW5⟩ : ∃ W5, W5 = (W.setCell ⟨w.heap.size + 1 + 1, 0, none⟩ (.slice A2 M.length c2)).setCell ⟨w.heap.size + 1 + 1 + 1, 0, none⟩ (.bool true) := ⟨_, rfl⟩
      rw [← hW5]
      have hb5 : Below w.heap.size W W5 := by rw [hW5]; exact ((Below.refl _ _).setCell (by simp; omega) _).setCell (by simp; omega) _
      have hD5 : W5.heap[D]? = some (.deferred (some [])) := by
        rw [hW5]
        exact blockother (blockother hK (p := ⟨w.heap.size + 1 + 1, 0, none⟩) (by simp; omega) _) (p := ⟨w.heap.size + 1 + 1 + 1, 0, none⟩) (by simp; omega) _
      have q6 : W5.heap[w.heap.size + 1 + 1]? = some (.cells #[.slice A2 M.length c2] 22 (0, 0)) := by
        rw [hW5]
        exact blockother (blockset HQ.out.1 0 _) (p := ⟨w.heap.size + 1 + 1 + 1, 0, none⟩) (by simp) _
      have q7 : W5.heap[w.heap.size + 1 + 1 + 1]? = some (.cells #[.bool true] 4 (0, 0)) := by
        rw [hW5]
        exact blockset (blockother HQ.out.2 (p := ⟨w.heap.size + 1 + 1, 0, none⟩) (by simp) _) 0 _
      have hO5 : OwnL W5 (wR.heap.size + 2) (fun b => wR.heap.size + 2 ≤ b) M (.slice A2 M.length c2) := by
        rw [hW5]
        exact (HO.out.set (by simp; omega) (fun k hk e => by have := (HO.out.own_lt k hk).1; simp at e; omega) _).set (by simp; omega) (fun k hk e => by have := ((HO.out.set (p := ⟨w.heap.size + 1 + 1, 0, none⟩) (u := .slice A2 M.length c2) (by simp; omega) (fun k hk e => by have := (HO.out.own_lt k hk).1; simp at e; omega)).own_lt k hk).1; simp at e; omega) _
      refine ⟨by simp, .inl ⟨_, _, rfl, run_takeDeferred hD5, ?_⟩⟩
      have hg := grownBy_putObj' W5 D (.deferred none)
      have hO2 : OwnL (W5.putObj D (.deferred none)) (wR.heap.size + 2) (fun b => wR.heap.size + 2 ≤ b) M (.slice A2 M.length c2) :=
        hO5.keep (Keeps.grown hg fun k e (h : wR.heap.size + 2 ≤ k) => by injection e with e; omega) fun k hk => hg.block k (hO5.own_lt k hk).2 (fun e => by injection e with e; have := (hO5.own_lt k hk).1; omega)
      have hI : IsS (W5.putObj D (.deferred none)) (fun b => w.heap.size ≤ b) M (.slice A2 M.length c2) := hO2.is (fun b (h : wR.heap.size + 2 ≤ b) => show w.heap.size ≤ b by omega) (fun b (h : wR.heap.size + 2 ≤ b) => show w.heap.size ≤ b by omega) (by have := HML.out; omega)
      have y6 : (W5.putObj D (.deferred none)).cell? ⟨w.heap.size + 1 + 1, 0, none⟩ = some (.slice A2 M.length c2) := by
        have := (hg.block _ (Array.getElem?_eq_some_iff.1 q6).1 (fun e => by injection e with e; omega)).trans q6
        simp [World.cell?, this]
      have y7 : (W5.putObj D (.deferred none)).cell? ⟨w.heap.size + 1 + 1 + 1, 0, none⟩ = some (.bool true) := by
        have := (hg.block _ (Array.getElem?_eq_some_iff.1 q7).1 (fun e => by injection e with e; omega)).trans q7
        simp [World.cell?, this]
      have hbF : Below w.heap.size w (W5.putObj D (.deferred none)) := by
        have hb6 : Below w.heap.size w W5 := hbel.trans hb5
        exact hb6.grown hg hb6.size (fun k hk => by injection hk with hk; omega)
      exact ⟨.tuple #[.slice A2 M.length c2, .bool true], by simp [results, Tryd.results18, go_sem, y6, y7], .slice A2 M.length c2, rfl, hI, hbF⟩
end Go.Proofs.YtaeldfnihocljaaDoor

/- An item stored. -/
set_option linter.unusedVariables false
set_option linter.unusedSimpArgs false
namespace Go.Proofs.YtaeldfnihocljaaDoor
open Go.RowKit
attribute [local go_sem] lt_succ_of methLeaf methBranch asNone asSome asLeaf asBranch

theorem CsL.split {w : World} {S : Nat → Prop} : ∀ {l : List V} {xs : List Value} (i : Nat), CsL w S l xs → i < l.length → ∃ p a b c d r, xs = p ++ a :: b :: c :: d :: r ∧ p.length = i * 4 ∧ CsL w S (l.take i) p ∧ CsL w S (l.drop (i + 1)) r
  | [], _, i, _, h => by simp at h
  | x :: l, xs, 0, ⟨y, z, e, h1, h2⟩, _ => by
    obtain ⟨A, cap, hy⟩ := h1.cells
    subst hy
    exact ⟨[], _, _, _, _, z, by rw [e]; rfl, rfl, by simp [CsL], by simpa using h2⟩
  | x :: l, xs, i + 1, ⟨y, z, e, h1, h2⟩, h => by
    obtain ⟨p, a, b, c, d, r, he, hp, h3, h4⟩ := CsL.split i h2 (by simpa using h)
    refine ⟨y ++ p, a, b, c, d, r, by rw [e, he, List.append_assoc], by rw [List.length_append, h1.length, hp]; omega, ?_, by simpa using h4⟩
    rw [List.take_succ_cons]
    exact ⟨y, p, rfl, h1, h3⟩
/-- A value stored into a slice of the call's own. -/
theorem OwnL.store {w : World} {base : Nat} {S : Nat → Prop} {l : List V} {v : Value} (h : OwnL w base S l v) {i : Nat} (hi : i < l.length) {y : V} {c0 c1 c2 c3 : Value} (hy : VC w (fun b => S b ∧ some b ≠ v.ownBlock) y [c0, c1, c2, c3]) :
    ∃ g cap, v = .slice (some ⟨g, 0, none⟩) l.length cap ∧ l.length ≤ cap ∧ base ≤ g ∧ g < w.heap.size ∧ (∃ a b c d, w.cell? ⟨g, i * 4, none⟩ = some a ∧ w.cell? ⟨g, i * 4 + 1, none⟩ = some b ∧ w.cell? ⟨g, i * 4 + 2, none⟩ = some c ∧ w.cell? ⟨g, i * 4 + 3, none⟩ = some d) ∧ (∀ n, w.frozen? ⟨g, n, none⟩ = false) ∧
      OwnL ((((w.setCell ⟨g, i * 4, none⟩ c0).setCell ⟨g, i * 4 + 1, none⟩ c1).setCell ⟨g, i * 4 + 2, none⟩ c2).setCell ⟨g, i * 4 + 3, none⟩ c3) base S (l.set i y) v := by
  obtain ⟨xs, ⟨h1, h2⟩, h3⟩ := h
  rcases h2 with ⟨rfl, h2⟩ | ⟨g, cap, cur, rfl, hg, hh, hc, hm, hs, ht⟩
  · omega
  · obtain ⟨p, a, b, c, d, r, he, hp, hl, hr⟩ := CsL.split i h3 hi
    obtain ⟨q, hq⟩ : ∃ q, cur = (p ++ a :: b :: c :: d :: (r ++ q)).toArray := by
      refine ⟨cur.toList.drop (l.length * 4), ?_⟩
      have h := List.take_append_drop (l.length * 4) cur.toList
      rw [ht, he] at h
      apply Array.toList_inj.1
      refine h.symm.trans ?_
      simp
    subst hq
    have hlt := (Array.getElem?_eq_some_iff.1 hh).1
    obtain ⟨g0, g1, g2, g3⟩ := cells4 hh hp
    refine ⟨g, cap, rfl, hc, hg, hlt, ⟨a, b, c, d, g0, g1, g2, g3⟩, free4 hh, p ++ c0 :: c1 :: c2 :: c3 :: r, ⟨?_, .inr ⟨g, cap, _, ?_, hg, block4set hh hp c0 c1 c2 c3, ?_, hm, ?_, ?_⟩⟩, ?_⟩
    · rw [List.length_set, ← h1, he]; simp
    · simp
    · simpa using hc
    · rw [← hs]; simp
    · rw [List.length_set, ← h1, he]
      rw [show (p ++ c0 :: c1 :: c2 :: c3 :: (r ++ q)).toArray.toList = (p ++ c0 :: c1 :: c2 :: c3 :: r) ++ q by simp]
      exact List.take_left' (by simp)
    · have hK : Keeps w (fun b => S b ∧ some b ≠ (Value.slice (some ⟨g, 0, none⟩) l.length cap).ownBlock) ((((w.setCell ⟨g, i * 4, none⟩ c0).setCell ⟨g, i * 4 + 1, none⟩ c1).setCell ⟨g, i * 4 + 2, none⟩ c2).setCell ⟨g, i * 4 + 3, none⟩ c3) (fun b => S b ∧ some b ≠ (Value.slice (some ⟨g, 0, none⟩) l.length cap).ownBlock) := by
        refine Keeps.set_after (Keeps.set_after (Keeps.set_after (Keeps.set ?_ c0) ?_ c1) ?_ c2) ?_ c3 <;> exact fun h => h.2 rfl
      have h5 : CsL w (fun b => S b ∧ some b ≠ (Value.slice (some ⟨g, 0, none⟩) l.length cap).ownBlock) (l.set i y) (p ++ c0 :: c1 :: c2 :: c3 :: r) := by
        rw [List.set_eq_take_append_cons_drop, if_pos hi]
        exact hl.append ⟨[c0, c1, c2, c3], r, rfl, hy, hr⟩
      exact h5.keep hK
end Go.Proofs.YtaeldfnihocljaaDoor
