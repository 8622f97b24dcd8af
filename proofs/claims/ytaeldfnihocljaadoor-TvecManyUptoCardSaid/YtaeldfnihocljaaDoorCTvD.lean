/- Transients: an item of an open one. -/
import Derived.Test.YtaeldfnihocljaaDoorCTvC

set_option linter.unusedVariables false
set_option linter.unusedSimpArgs false
namespace Go.Proofs.YtaeldfnihocljaaDoor
open Go.RowKit
attribute [local go_sem] lt_succ_of

/-- A value of one's own put into a box. -/
theorem store_isv {w : World} {b0 n : Nat} {c0 c1 c2 c3 d0 d1 d2 d3 : Value} {t : TypeId} {x : V} (h : w.heap[b0]? = some (.cells #[c0, c1, c2, c3] t (0, 0))) (hv : IsV w (fun b => n ≤ b) x (.agg #[d0, d1, d2, d3])) (hn : b0 < n) (W : World) (hw : W.heap.size = b0) (hB : Below W.heap.size W w) :
    ∃ w5, (((w.setCell ⟨b0, 0, none⟩ d0).setCell ⟨b0, 1, none⟩ d1).setCell ⟨b0, 2, none⟩ d2).setCell ⟨b0, 3, none⟩ d3 = w5 ∧ w5.cell? ⟨b0, 0, none⟩ = some d0 ∧ w5.cell? ⟨b0, 1, none⟩ = some d1 ∧ w5.cell? ⟨b0, 2, none⟩ = some d2 ∧ w5.cell? ⟨b0, 3, none⟩ = some d3 ∧ IsV w5 (fun b => W.heap.size ≤ b) x (.agg #[d0, d1, d2, d3]) ∧ Below W.heap.size W w5 := by
  obtain ⟨w5, hw5, hb5, hs5, hk5, hB5⟩ := store_box h d0 d1 d2 d3
  obtain ⟨q0, q1, q2, q3⟩ := block4 hb5
  exact ⟨w5, hw5, q0, q1, q2, q3, hv.keep fun b hb hs => ⟨by omega, hk5 b (by omega)⟩, hB.trans (hB5 _ (by omega))⟩
set_option maxRecDepth 100000 in
set_option maxHeartbeats 8000000 in
theorem tnth_calls (w : World) (R : Nat → Prop) (k : Nat) (x : Tr) (i : Int) (hx : IsTr w R k x) (ho : x.op = true) (hi0 : -9223372036854775808 ≤ i) (hi1 : i ≤ 9223372036854775807) :
    Calls Tryd.prog 38 #[.pointer (some ⟨x.t, 0, none⟩), .int .i64 i] w fun e w' => ∃ v, e = .returned (.tuple #[v, .int .i64 (nthV x.all i).2]) ∧ IsV w' (fun b => w.heap.size ≤ b) (nthV x.all i).1 v ∧ Below w.heap.size w w' := by
  obtain ⟨w1, hw1, hB1, hsz, hb0⟩ := box0 w 31 (.int .i64 0) (.int .i64 0) (.string ⟨#[]⟩) (.slice none 0 0)
  obtain ⟨e0, e1, e2, e3⟩ := block4 hb0
  have fz := free4 hb0
  have hx1 := hx.below hB1
  have HX := Lib.hid hx1
  obtain ⟨c0, c1, c2, hl, hfr⟩ := hx1.cells
  obtain ⟨A, cap, hv, hcap⟩ := hx1.form
  have hsm := hx1.small
  have hall : x.all.length = x.m.length + x.wt.length := List.length_append
  have hsm1 : x.m.length ≤ 65536 := by omega
  have HS := sealed_calls w1 R k x hx1
  rw [ho] at HS c0
  have HS := Lib.hid HS
  have HB0 := Lib.hid hb0
  have HL := Lib.hid (len_calls x.m x.h x.b w1 _ hx1.vec)
  have HV := Lib.hid hv
  rw [hv] at c2
  have HN := Lib.hid (fun w2 (hb2 : Below w1.heap.size w1 w2) => nth_calls x.m x.h x.b i w2 _ (hx1.vec.below hb2) hi0 hi1)
  have HZ := Lib.hid (fun w2 (hb2 : Below w1.heap.size w1 w2) => size_calls w2 R k x (hx1.below hb2))
  clear hx hx1 ho hv hb0
  by_cases hin : i < (x.m.length : Int)
  · have hn : nthV x.all i = nthV x.m i := nthV_left _ _ hin
    rw [hn]
    have h1 : decide ((x.m.length : Int) ≤ i) = false := by simp; omega
    clear hsm hall hn
    have HIN := Lib.hid hin
    clear hin
    go_enter Tryd.func38, Tryd.ntmps38
    go_wp2_with (first | (go_at_call 59; refine HS.out.mono ?_; rintro e w2 ⟨rfl, rfl⟩) | (go_at_call 24; refine HL.out.mono ?_; rintro e w3 ⟨rfl, hb3⟩; have d1 := cellB hb3 c1; have hr3 := blockB hb3 HB0.out; have hrf := free4 hr3; have hs3 := hb3.size) | (go_at_call 15; refine (HN.out _ hb3).mono ?_; rintro e w4 ⟨v, rfl, hv, hb4⟩; obtain ⟨_, Ar, cr, rfl, _, _⟩ := hv.eq; have hr4 := blockB (below_then hb3 hb3.size hb4) HB0.out; have hrf4 := free4 hr4; obtain ⟨q0, q1, q2, q3⟩ := block4 hr4; have hlt4 := World.block_lt_of_cell? w4 _ q0; have hb5 := below_then hb3 hb3.size hb4; have HR4 := Lib.hid hr4; clear hr4; have HVR := Lib.hid hv; clear hv))
    obtain ⟨w8, hw8, r0, r1, r2, r3, hv8, hB8⟩ := store_isv HR4.out HVR.out (by omega) w rfl (below_then hB1 hB1.size hb5)
    rw [hw8]
    exact bodyPost_ret (v := .tuple #[.agg #[_, _, _, _], .int .i64 _]) (by simp [results, Tryd.results38, go_sem, r0, r1, r2, r3]) rfl ⟨_, rfl, hv8, hB8⟩
  · obtain ⟨j, rfl⟩ : ∃ j : Nat, i = (j : Int) := ⟨i.toNat, by omega⟩
    have h1 : decide ((x.m.length : Int) ≤ (j : Int)) = true := by simp; omega
    have hin2 : x.m.length ≤ j := by omega
    have i1 : IntKind.i64.wrap ((j : Int) - (x.m.length : Int)) = ((j - x.m.length : Nat) : Int) := by rw [IntWalk.i64_in _ (by omega)]; omega
    clear hin
    by_cases hout : j < x.all.length
    · have hj : j - x.m.length < x.wt.length := by omega
      have hn : nthV x.all (j : Int) = (itemAt x.wt (j - x.m.length), 0) := nthV_right _ _ hin2 (by omega)
      rw [hn]
      have h2 : decide (j < x.all.length) = true := by simp; omega
      obtain ⟨J, hJ⟩ : ∃ J, j - x.m.length = J := ⟨_, rfl⟩
      rw [hJ] at hj i1 ⊢
      obtain ⟨g, cap', A', c', hvw, hc', _, hgl, f0, f1, f2, f3, hxi⟩ := HX.out.wait.item hj
      have e1' := HV.out.symm.trans hvw
      simp only [Value.slice.injEq, true_and] at e1'
      obtain ⟨rfl, rfl⟩ := e1'
      have hpl := plus0 g
      have hj1 : ¬ (J : Int) < 0 := by omega
      have hj2 : (J : Int) < (x.wt.length : Int) := by omega
      have HO := Lib.hid (fun w2 (hb2 : Below w1.heap.size w1 w2) => ownt_calls _ _ w2 _ (hxi.below hb2))
      have HF := Lib.hid (And.intro (And.intro f0 f1) (And.intro f2 f3))
      obtain ⟨n, hnn⟩ : ∃ n, x.all.length = n := ⟨_, rfl⟩
      rw [hnn] at h2 HZ
      clear hsm hall hn hxi f0 f1 f2 f3 hout hsm1 hj hnn
      go_enter Tryd.func38, Tryd.ntmps38
      go_wp2_with (first | (go_at_call 59; refine HS.out.mono ?_; rintro e w2 ⟨rfl, rfl⟩) | (go_at_call 24; refine HL.out.mono ?_; rintro e w3 ⟨rfl, hb3⟩; have hs3 := hb3.size) | (go_at_call 61; refine (HZ.out _ hb3).mono ?_; rintro e w4 ⟨rfl, hb4⟩; have hb5 := below_then hb3 hb3.size hb4; have hs4 := hb4.size; have d2 := cellB hb5 c2; have f0 := cellB hb5 HF.out.1.1; have f1 := cellB hb5 HF.out.1.2; have f2 := cellB hb5 HF.out.2.1; have f3 := cellB hb5 HF.out.2.2; have hr5 := blockB hb5 HB0.out; have hrf5 := free4 hr5; clear hr5) | (go_at_call 62; refine (HO.out _ hb5).mono ?_; rintro e w6 ⟨v, rfl, hv, hb6⟩; obtain ⟨_, Ar, cr, rfl, _, _⟩ := hv.eq; have hb7 := below_then hb5 hb5.size hb6; have hr4 := blockB hb7 HB0.out; have hrf4 := free4 hr4; obtain ⟨q0, q1, q2, q3⟩ := block4 hr4; have hlt4 := World.block_lt_of_cell? w6 _ q0; have HR4 := Lib.hid hr4; have HVR := Lib.hid hv; clear hr4 hv))
      obtain ⟨w8, hw8, r0, r1, r2, r3, hv8, hB8⟩ := store_isv HR4.out HVR.out (by omega) w rfl (below_then hB1 hB1.size hb7)
      rw [hw8]
      exact bodyPost_ret (v := .tuple #[.agg #[_, _, _, _], .int .i64 _]) (by simp [results, Tryd.results38, go_sem, r0, r1, r2, r3]) rfl ⟨_, rfl, hv8, hB8⟩
    · have hn : nthV x.all (j : Int) = (V.zero, 5) := nthV_far _ (by omega)
      have hn2 : nthV x.m (j : Int) = (V.zero, 5) := nthV_far _ (by omega)
      rw [hn2] at HN
      rw [hn]
      have h2 : decide (j < x.all.length) = false := by simp; omega
      obtain ⟨n, hnn⟩ : ∃ n, x.all.length = n := ⟨_, rfl⟩
      rw [hnn] at h2 HZ
      clear hsm hall hn hsm1 hnn hn2 hout
      go_enter Tryd.func38, Tryd.ntmps38
      go_wp2_with (first | (go_at_call 59; refine HS.out.mono ?_; rintro e w2 ⟨rfl, rfl⟩) | (go_at_call 24; refine HL.out.mono ?_; rintro e w3 ⟨rfl, hb3⟩; have hs3 := hb3.size) | (go_at_call 61; refine (HZ.out _ hb3).mono ?_; rintro e w4 ⟨rfl, hb4⟩; have hb5 := below_then hb3 hb3.size hb4; have hs5 := hb5.size; have d1 := cellB hb5 c1) | (go_at_call 15; refine (HN.out _ hb5).mono ?_; rintro e w6 ⟨v, rfl, hv, hb6⟩; obtain ⟨_, Ar, cr, rfl, _, _⟩ := hv.eq; have hb7 := below_then hb5 hb5.size hb6; have hr7 := blockB hb7 HB0.out; have hrf7 := free4 hr7; obtain ⟨q0, q1, q2, q3⟩ := block4 hr7; have hlt7 := World.block_lt_of_cell? w6 _ q0; have HR7 := Lib.hid hr7; clear hr7; have HVR := Lib.hid hv; clear hv))
      obtain ⟨w8, hw8, r0, r1, r2, r3, hv8, hB8⟩ := store_isv HR7.out HVR.out (by omega) w rfl (below_then hB1 hB1.size hb7)
      rw [hw8]
      exact bodyPost_ret (v := .tuple #[.agg #[_, _, _, _], .int .i64 _]) (by simp [results, Tryd.results38, go_sem, r0, r1, r2, r3]) rfl ⟨_, rfl, hv8, hB8⟩
end Go.Proofs.YtaeldfnihocljaaDoor
