/- The law FingerEnds. -/
import Derived.Test.YtjjbhnkplbjfeaaDoorCFnZ

set_option linter.unusedVariables false
set_option linter.unusedSimpArgs false
namespace Go.Proofs.YtjjbhnkplbjfeaaDoor
open Go.RowKit
attribute [local go_sem] lt_succ_of

theorem popE_cons (x : V) (l : List V) : popE (x :: l) = 0 := by unfold popE; rw [if_neg (by simp)]
theorem popE_snoc (x : V) (l : List V) : popE (l ++ [x]) = 0 := by unfold popE; rw [if_neg (by simp)]
theorem IsV.all {w : World} {S : Nat → Prop} {x : V} {v : Value} (h : IsV w S x v) : IsV w (fun _ => True) x v := h.keep (Keeps.weak fun _ _ => trivial)
set_option maxRecDepth 100000 in
set_option maxHeartbeats 8000000 in
theorem fingerends_calls (l : List V) (x : V) (A : Option Addr) (cA : Nat) (vx : Value) (w : World) (S : Nat → Prop) (hl : IsS w S l (.slice A l.length cA)) (hx : IsV w S x vx) (hT : Lib.Utf8Tabs 1 2 w) :
    Calls Tryd.prog 4 #[.slice A l.length cA, vx] w fun e w' => e = .returned (.bool true) ∧ Below w.heap.size w w' := by
  obtain ⟨hbx, Ax, cx, rfl, hcx, hAx⟩ := hx.eq
  obtain ⟨w1, hw1, hB1, hsz, hb0⟩ := box0 w 33 (.int .i64 x.kind) (.int .i64 x.num) (.string x.text) (.slice Ax x.items.length cx)
  have hl1 : w.heap.size < w1.heap.size := by omega
  obtain ⟨e0, e1, e2, e3⟩ := block4 hb0
  have HOF := Lib.hid (dof_calls l _ w1 S (hl.below hB1) (tabs_below hT hB1))
  have HL := Lib.hid hl
  have HT := Lib.hid hT
  have HX := Lib.hid (hx.below hB1).all
  have HB0 := Lib.hid hb0
  by_cases h0 : listE l = 0
  · rw [h0] at HOF
    have hl65 : l.length ≤ 65536 := by
      unfold listE at h0
      split at h0
      · omega
      · omega
    by_cases hfull : l.length = 65536
    · have h2 : ((l.length : Int) == 65536) = true := by rw [hfull]; rfl
      clear hl hx hAx hT hb0 h0 hfull hl65
      go_enter Tryd.func4, Tryd.ntmps4
      go_wp2_with (first
        | (go_at_call 13; refine HOF.out.mono ?_; rintro e w2 ⟨p, rfl, hp, hb2⟩; obtain ⟨b, rfl, hv⟩ := (hp.resolve_left (fun h => h.1 rfl)).2; have hb3 := below_then hB1 hB1.size hb2; clear hp hv)
        | (go_at_call 15; refine (fspeaks_calls _ (tabs_below HT.out hb3)).mono ?_; rintro e w12 ⟨rfl, hb4'⟩; have hb4 := below_then hb3 hb3.size hb4'))
      go_ret
      exact ⟨rfl, hb4⟩
    · have h2 : ((l.length : Int) == 65536) = false := beq_eq_false_iff_ne.2 (by omega)
      by_cases hz : pushE l x = 0
      · have HZ := Lib.hid hz
        clear hl hx hAx hT hb0 h0 hfull hl65 hz
        go_enter Tryd.func4, Tryd.ntmps4
        go_wp2_with (first
          | (go_at_call 13; refine HOF.out.mono ?_; rintro e w2 ⟨p, rfl, hp, hb2⟩; obtain ⟨b, rfl, hv⟩ := (hp.resolve_left (fun h => h.1 rfl)).2; have HD2 := Lib.hid hv.all; have hb3 := below_then hB1 hB1.size hb2; obtain ⟨c0, c1, c2, c3⟩ := cells4B hb2 (block4 HB0.out); have lc := World.block_lt_of_cell? w2 _ c0; have HP := dfront_calls l _ x _ w2 _ HD2.out.is (HX.out.below hb2) (tabs_below HT.out hb3); rw [HZ.out] at HP; have HFR := Lib.hid HP; clear hp hv HOF HP)
          | (go_at_call 22; refine HFR.out.mono ?_; rintro e w3 ⟨p3, rfl, hp3, hb4'⟩; obtain ⟨b3, rfl, hd3⟩ := (hp3.resolve_left (fun h => h.1 rfl)).2; have HD3 := Lib.hid hd3.all; have hb4 := below_then hb2 hb2.size hb4'; have hb5 := below_then hB1 hB1.size hb4; obtain ⟨d0, d1, d2, d3⟩ := cells4B hb4 (block4 HB0.out); have ld := World.block_lt_of_cell? w3 _ d0; have HD2' := Lib.hid (HD2.out.below hb4'); have HP := dback_calls l _ x _ w3 _ HD2'.out.is (HX.out.below hb4) (tabs_below HT.out hb5); rw [HZ.out] at HP; have HBK := Lib.hid HP; clear hp3 hd3 HFR HP HD2)
          | (go_at_call 23; refine HBK.out.mono ?_; rintro e w4 ⟨p4, rfl, hp4, hb6'⟩; obtain ⟨b4, rfl, hd4⟩ := (hp4.resolve_left (fun h => h.1 rfl)).2; have HD4 := Lib.hid hd4.all; have HD3' := Lib.hid (HD3.out.below hb6'); have HD2'' := Lib.hid (HD2'.out.below hb6'); have hb6 := below_then hb4 hb4.size hb6'; have HPF := dpopfirst_calls _ _ w4 _ HD3'.out.is; rw [popE_cons] at HPF; have HPF := Lib.hid HPF; clear hp4 hd4 HBK HD3 HD2'))
        go_wp2_with (first
          | (go_at_call 24; refine HPF.out.mono ?_; rintro e w5 ⟨p5, v5, rfl, hv5, hp5, hb7'⟩; obtain ⟨b5, rfl, hd5⟩ := (hp5.resolve_left (fun h => List.cons_ne_nil _ _ h.1)).2; obtain ⟨_, A5, c5, rfl, _, _⟩ := (show IsV w5 _ x v5 from hv5).eq; have HV5 := Lib.hid (show IsV w5 _ x _ from hv5).all; have hbA := alloc_of (w := w5) (Below.refl _ _) (.cells #[.int .i64 x.kind, .int .i64 x.num, .string x.text, .slice A5 x.items.length c5] 33); have hb7 := below_then hb7' hb7'.size hbA; have HD5 := Lib.hid ((show IsE w5 _ l b5 from hd5).all.below hbA); have HD4' := Lib.hid (HD4.out.below hb7); have HD25 := Lib.hid (HD2''.out.below hb7); have HK5 := Lib.hid (heap_alloc_new w5 (.cells #[.int .i64 x.kind, .int .i64 x.num, .string x.text, .slice A5 x.items.length c5] 33)); have hb8 := below_then hb6 hb6.size hb7; have HPB := dpoplast_calls _ _ _ _ HD4'.out.is; rw [popE_snoc, popX_end, List.dropLast_concat] at HPB; have HPB := Lib.hid HPB; have HV5' := Lib.hid (HV5.out.below hbA); clear hp5 hd5 hv5 HPF HD4 HD2'' HV5)
          | (go_at_call 25; refine HPB.out.mono ?_; rintro e w6 ⟨p6, v6, rfl, hv6, hp6, hb9'⟩; obtain ⟨b6, rfl, hd6⟩ := (hp6.resolve_left (fun h => absurd h.1 (by simp))).2; obtain ⟨_, A6, c6, rfl, _, _⟩ := (show IsV w6 _ x v6 from hv6).eq; have HV6 := Lib.hid ((show IsV w6 _ x _ from hv6).all); have hbB := alloc_of (w := w6) (Below.refl _ _) (.cells #[.int .i64 x.kind, .int .i64 x.num, .string x.text, .slice A6 x.items.length c6] 33); have hb9 := below_then hb9' hb9'.size hbB; have HD6 := Lib.hid ((show IsE w6 _ l b6 from hd6).all.below hbB); have HD5' := Lib.hid (HD5.out.below hb9); have HD2f := Lib.hid (HD25.out.below hb9); have HV56 := Lib.hid (HV5'.out.below hb9); have HV66 := Lib.hid (HV6.out.below hbB); have HK6 := Lib.hid (heap_alloc_new w6 (.cells #[.int .i64 x.kind, .int .i64 x.num, .string x.text, .slice A6 x.items.length c6] 33)); have hb10 := below_then hb8 hb8.size hb9; obtain ⟨f0, f1, f2, f3⟩ := cells4B (below_then hb8 hb8.size hb9') (block4 HB0.out); have lf := World.block_lt_of_cell? w6 _ f0; obtain ⟨g0, g1, g2, g3⟩ := cells4B hb9' (block4 HK5.out); have lg := World.block_lt_of_cell? w6 _ g0; clear hp6 hd6 hv6 HPB HD25 HD5 HV5' HV6 HK5)
          | (go_at_call 21; refine (same_calls x x _ _ _ _ _ (HX.out.below hb10) HV56.out).mono ?_; rintro e w7 ⟨rfl, hb11'⟩; rw [eqV_self]; have hb11 := below_then hb10 hb10.size hb11'; obtain ⟨i0, i1, i2, i3⟩ := cells4B hb11 (block4 HB0.out); have li := World.block_lt_of_cell? w7 _ i0; obtain ⟨j0, j1, j2, j3⟩ := cells4B hb11' (block4 HK6.out); have lj := World.block_lt_of_cell? w7 _ j0; have HV67 := Lib.hid (HV66.out.below hb11'); clear HV56 HV66 HK6)
          | (go_at_call 21; refine (same_calls x x _ _ _ _ _ (HX.out.below hb11) HV67.out).mono ?_; rintro e w8 ⟨rfl, hb12'⟩; rw [eqV_self]; have hb12 := below_then hb11 hb11.size hb12'; have hb13 := below_then hb11' hb11'.size hb12'; have hb14 := below_then hB1 hB1.size hb12; have HS1 := Lib.hid (dsame_calls l _ _ w8 _ S (HD5'.out.below hb13) (HL.out.below hb14)); have HD68 := Lib.hid (HD6.out.below hb13); have HD28 := Lib.hid (HD2f.out.below hb13); clear HV67 HD5' HD6 HD2f))
        go_wp2_with (go_at_call 16; refine HS1.out.mono ?_; rintro e w9 ⟨rfl, hb15'⟩; have hb15 := below_then hb14 hb14.size hb15'; have HS2 := Lib.hid (dsame_calls l _ _ w9 _ S (HD68.out.below hb15') (HL.out.below hb15)); have HD29 := Lib.hid (HD28.out.below hb15'); clear HS1 HD68 HD28)
        go_wp2_with (go_at_call 16; refine HS2.out.mono ?_; rintro e w10 ⟨rfl, hb16'⟩; have hb16 := below_then hb15 hb15.size hb16'; have HS3 := Lib.hid (dsame_calls l _ _ w10 _ S (HD29.out.below hb16') (HL.out.below hb16)); clear HS2 HD29)
        go_wp2_with (first
          | (go_at_call 16; refine HS3.out.mono ?_; rintro e w11 ⟨rfl, hb17'⟩; have hb17 := below_then hb16 hb16.size hb17'; clear HS3)
          | (go_at_call 15; refine (fspeaks_calls _ (tabs_below HT.out hb17)).mono ?_; rintro e w12 ⟨rfl, hb18'⟩; have hb18 := below_then hb17 hb17.size hb18'))
        go_ret
        exact ⟨rfl, hb18⟩
      · obtain ⟨E, hE⟩ : ∃ E, pushE l x = E := ⟨_, rfl⟩
        have HE := Lib.hid hE
        rw [hE] at hz
        have HN := Lib.hid hz
        have h1 : (E != 0) = true := by simpa using hz
        have h3 : (E != E) = false := by simp
        have h4 : (E == E) = true := by simp
        clear hl hx hAx hT hb0 h0 hfull hl65 hz hE
        go_enter Tryd.func4, Tryd.ntmps4
        go_wp2_with (first
          | (go_at_call 13; refine HOF.out.mono ?_; rintro e w2 ⟨p, rfl, hp, hb2⟩; obtain ⟨b, rfl, hv⟩ := (hp.resolve_left (fun h => h.1 rfl)).2; have HD2 := Lib.hid hv.all; have hb3 := below_then hB1 hB1.size hb2; obtain ⟨c0, c1, c2, c3⟩ := cells4B hb2 (block4 HB0.out); have lc := World.block_lt_of_cell? w2 _ c0; have HP := dfront_calls l _ x _ w2 _ HD2.out.is (HX.out.below hb2) (tabs_below HT.out hb3); rw [HE.out] at HP; have HFR := Lib.hid HP; clear hp hv HOF HP)
          | (go_at_call 22; refine HFR.out.mono ?_; rintro e w3 ⟨p3, rfl, hp3, hb4'⟩; obtain rfl := (hp3.resolve_right (fun h => HN.out h.1)).2; have hb4 := below_then hb2 hb2.size hb4'; have hb5 := below_then hB1 hB1.size hb4; obtain ⟨d0, d1, d2, d3⟩ := cells4B hb4 (block4 HB0.out); have ld := World.block_lt_of_cell? w3 _ d0; have HD2' := Lib.hid (HD2.out.below hb4'); have HP := dback_calls l _ x _ w3 _ HD2'.out.is (HX.out.below hb4) (tabs_below HT.out hb5); rw [HE.out] at HP; have HBK := Lib.hid HP; clear hp3 HFR HP HD2)
          | (go_at_call 23; refine HBK.out.mono ?_; rintro e w4 ⟨p4, rfl, hp4, hb6'⟩; obtain rfl := (hp4.resolve_right (fun h => HN.out h.1)).2; have hb6 := below_then hb4 hb4.size hb6'; have hb7 := below_then hB1 hB1.size hb6; clear hp4 HBK HD2')
          | (go_at_call 15; refine (fspeaks_calls _ (tabs_below HT.out hb7)).mono ?_; rintro e w12 ⟨rfl, hb8'⟩; have hb8 := below_then hb7 hb7.size hb8'))
        go_ret
        exact ⟨rfl, hb8⟩
  · have h1 : (listE l != 0) = true := by simpa using h0
    have h2 : (listE l == 0) = false := by simpa using h0
    have HN := Lib.hid h0
    obtain ⟨E, hE⟩ : ∃ E, listE l = E := ⟨_, rfl⟩
    rw [hE] at HOF HN h1 h2 h0
    clear hl hx hAx hT hb0 hE
    go_enter Tryd.func4, Tryd.ntmps4
    go_wp2_with (first
      | (go_at_call 13; refine HOF.out.mono ?_; rintro e w2 ⟨p, rfl, hp, hb2⟩; obtain rfl := (hp.resolve_right (fun h => HN.out h.1)).2; have hb3 := below_then hB1 hB1.size hb2; clear hp)
      | (go_at_call 15; refine (fspeaks_calls _ (tabs_below HT.out hb3)).mono ?_; rintro e w5 ⟨rfl, hb5⟩; have hb6 := below_then hb3 hb3.size hb5))
    go_ret
    exact ⟨rfl, hb6⟩
end Go.Proofs.YtjjbhnkplbjfeaaDoor
