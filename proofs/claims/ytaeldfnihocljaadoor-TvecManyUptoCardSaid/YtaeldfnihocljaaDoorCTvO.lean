/- The law TvecMany. -/
import Derived.Test.YtaeldfnihocljaaDoorCTvOa

set_option linter.unusedVariables false
set_option linter.unusedSimpArgs false
namespace Go.Proofs.YtaeldfnihocljaaDoor
open Go.RowKit
attribute [local go_sem] lt_succ_of

set_option maxRecDepth 100000 in
set_option maxHeartbeats 8000000 in
theorem tvecmany_calls (l : List V) (ts : List St) (Al : Option Addr) (cl : Nat) (A : Option Addr) (cA : Nat) (w : World) (S : Nat → Prop) (hl : IsS w S l (.slice Al l.length cl)) (hts : IsT w S ts (.slice A ts.length cA)) (hT : Lib.Utf8Tabs 0 1 w) :
    Calls Tryd.prog 9 #[.slice Al l.length cl, .slice A ts.length cA] w fun e w' => e = .returned (.bool true) ∧ Below w.heap.size w w' := by
  have HOF := Lib.hid (of_calls l _ w S hl hT)
  have HTS := Lib.hid hts
  have HT := Lib.hid hT
  have HLS := Lib.hid hl
  have h2w := tabs_size hT
  have htl : ts.length ≤ 4294967296 := by obtain ⟨_, _, _, _, h, _⟩ := hts; exact h
  clear hl hT hts
  by_cases h0 : listE l = 0
  · rw [h0] at HOF
    clear h0
    go_enter Tryd.func9, Tryd.ntmps9
    go_wp2_with (first
      | (go_at_call 11; refine HOF.out.mono ?_; rintro e w2 ⟨p, rfl, hp, hb2⟩; obtain ⟨h, b, rfl, hv⟩ := (hp.resolve_left (fun h => h.1 rfl)).2; have HV := Lib.hid hv; have HBG := Lib.hid (begin_calls _ h b w2 (fun _ => False) (hv.keep (Keeps.weak fun _ _ h => h)) (fun _ h => h.elim) (Nat.le_trans h2w hb2.size)); clear hp hv))
    go_wp2_with (go_at_call 34; refine HBG.out.mono ?_; rintro e w3 ⟨rfl, hx0, hb3⟩; have hb4 := below_then hb2 hb2.size hb3; have HBG2 := Lib.hid (begin_calls l h b w3 (fun c => c = w2.heap.size) ((HV.out.keep (w' := w3) (S' := fun c => ¬ c = w2.heap.size) (Keeps.below_to hb3 fun c h1 h2 => Nat.ne_of_lt h1))) (fun c hc => hc ▸ (Array.getElem?_eq_some_iff.1 hx0.blk).1) (Nat.le_trans h2w hb4.size)); have HX0 := Lib.hid hx0; clear hx0 HBG)
    go_wp2_with (go_at_call 34; refine HBG2.out.mono ?_; rintro e w4 ⟨rfl, hy0, hb5⟩; have hb6 := below_then hb4 hb4.size hb5; have H2 := Lib.hid (Two.begun hb2.size HLS.out rfl hb2 HV.out HX0.out hb3 hy0 hb5); clear hy0 HBG2)
    clear HX0 hb3 hb5 HV
    go_loopw [9, 10, 11] (fun vm vn vi W => ∃ (i : Nat) (xa xb : Tr), vi = .int .i64 i ∧ i ≤ ts.length ∧ Hid (Two (fun S w => IsR w S l h b) w.heap.size W w2.heap.size w3.heap.size xa xb vm vn ∧ Below w.heap.size w W)) (fun _ _ v _ => ts.length - (intOf v).toNat)
    case atStart => exact ⟨0, _, _, rfl, by omega, Lib.hid ⟨H2.out, hb6⟩⟩
    case round =>
      obtain ⟨i, xa, xb, rfl, hi, HJ⟩ := hrel
      obtain ⟨hJ, hf⟩ := HJ.out
      obtain ⟨Am, cm, rfl, _, _, _⟩ := hJ.m
      obtain ⟨An, cn, rfl, _, _, _⟩ := hJ.n
      by_cases hlt : i < ts.length ∧ i < 200
      · have hi1 : (i : Int) < (ts.length : Int) := by omega
        have hi2 : (i : Int) < 200 := by omega
        by_cases hpar : i % 2 = 0
        · have hp1 : (i : Int) % 2 = 0 := by omega
          have hp2 : ((i : Int) % 2 == 0) = true := by simpa using hp1
          have hJ2 := hJ
          obtain ⟨ad, A', c', rfl, hla, hbd, g0, g1, g2, g3, g4, g5, hy⟩ := (HTS.out.keep (w' := wr) (S' := fun c => ¬ xa.own c ∧ ¬ xb.own c) (Keeps.below_to hf fun c h1 h2 => ⟨fun h3 => by have := hJ2.ha c h3; omega, fun h3 => by have := hJ2.hb c h3; omega⟩)).at i hlt.1
          have hla2 : (ad.add (i * 6)).block < wr.heap.size := hla
          have hS := tstep_calls wr xb.own xa (stepAt ts i) A' c' _ hJ2.a hJ2.oa (fun c e => hJ2.b.own_lt e) hbd hy (tabs_below HT.out hf) hJ2.m
          rw [hJ2.ta] at hS
          have HS := Lib.hid hS
          clear hS hJ hJ2 hy hbd hla hlt hpar hp1
          go_wp2_with (go_at_call 35; refine HS.out.mono ?_; rintro e w5 ⟨v5, rfl, hw5⟩; have HW4 := Lib.hid hw5; clear hw5)
          go_roundw
          case rel =>
            obtain ⟨x', h2, hb⟩ := HJ.out.1.step (kept_vec l h b) hf.size HW4.out
            exact ⟨i + 1, x', xb, by go_num, by omega, Lib.hid ⟨h2, hf.trans hb⟩⟩
          case measure => simp [intOf]; omega
        · have hp1 : (i : Int) % 2 = 1 := by omega
          have hp2 : ((i : Int) % 2 == 0) = false := by simp; omega
          have hJ2 := hJ.swap (kept_vec l h b)
          obtain ⟨ad, A', c', rfl, hla, hbd, g0, g1, g2, g3, g4, g5, hy⟩ := (HTS.out.keep (w' := wr) (S' := fun c => ¬ xb.own c ∧ ¬ xa.own c) (Keeps.below_to hf fun c h1 h2 => ⟨fun h3 => by have := hJ2.ha c h3; omega, fun h3 => by have := hJ2.hb c h3; omega⟩)).at i hlt.1
          have hla2 : (ad.add (i * 6)).block < wr.heap.size := hla
          have hS := tstep_calls wr xa.own xb (stepAt ts i) A' c' _ hJ2.a hJ2.oa (fun c e => hJ2.b.own_lt e) hbd hy (tabs_below HT.out hf) hJ2.m
          rw [hJ2.ta] at hS
          have HS := Lib.hid hS
          clear hS hJ hJ2 hy hbd hla hlt hpar hp1
          go_wp2_with (go_at_call 35; refine HS.out.mono ?_; rintro e w5 ⟨v5, rfl, hw5⟩; have HW4 := Lib.hid hw5; clear hw5)
          go_roundw
          case rel =>
            obtain ⟨x', h2, hb⟩ := (HJ.out.1.swap (kept_vec l h b)).step (kept_vec l h b) hf.size HW4.out
            exact ⟨i + 1, xa, x', by go_num, by omega, Lib.hid ⟨h2.swap (kept_vec l h b), hf.trans hb⟩⟩
          case measure => simp [intOf]; omega
      · by_cases hlt2 : i < ts.length
        · have hi1 : (i : Int) < (ts.length : Int) := by omega
          have hi2 : ¬ (i : Int) < 200 := by omega
          have hi3 : decide ((i : Int) < 200) = false := decide_eq_false hi2
          clear hlt hlt2
          have hS := tseal_calls wr xb.own xa (hJ.a.mono (by decide)) hJ.oa (tabs_below HT.out hf) (fun c e => hJ.b.own_lt e)
          rw [hJ.ta] at hS
          have HS := Lib.hid hS
          clear hS hJ hi
          go_wp2_with (go_at_call 36; refine HS.out.mono ?_; rintro e w5 ⟨x3, rfl, hb7, hx3, ht3, ho3, hm3, hw3, hown3⟩; have hf5 := hf.trans (hb7.below hf.size HJ.out.1.ha); have hv3 := hx3.vec; rw [hm3] at hv3; have HBG3 := Lib.hid (begin_calls xa.all x3.h x3.b w5 xb.own (hv3.keep (Keeps.weak fun _ h => h.2)) (fun c e => Nat.lt_of_lt_of_le (HJ.out.1.b.own_lt e) hb7.size) (Nat.le_trans h2w hf5.size)); have HX3 := Lib.hid hx3; have HB7 := Lib.hid hb7; have HM3 := Lib.hid hm3; have HO3 := Lib.hid hown3; clear hb7 hx3 ht3 ho3 hm3 hw3 hown3 hv3)
          go_wp2_with (go_at_call 34; refine HBG3.out.mono ?_; rintro e w6 ⟨rfl, hx6, hb8⟩; have hf6 := below_then hf5 hf5.size hb8; have H6 := Lib.hid (HJ.out.1.anew (kept_vec l h b) hf.size HB7.out HX3.out HM3.out HO3.out hx6 hb8); clear hx6 HBG3)
          clear hi1 hi3
          go_loopw [16, 17] (fun vo vi W => ∃ (j : Nat) (xc : Tr), vi = .int .i64 j ∧ j ≤ ts.length ∧ Hid (Two (fun S w => IsR w S l h b ∧ IsR w S xa.all x3.h x3.b ∧ IsS w S xa.all (.slice Am xa.all.length cm)) w.heap.size W w5.heap.size w3.heap.size xc xb vo (.slice An xb.all.length cn) ∧ Below w.heap.size w W)) (fun _ v _ => ts.length - (intOf v).toNat)
          case atStart => exact ⟨0, _, rfl, by omega, Lib.hid ⟨H6.out, hf6⟩⟩
          case round =>
            obtain ⟨j, xc, rfl, hj, HJ2⟩ := hrel
            obtain ⟨hJ, hf2⟩ := HJ2.out
            obtain ⟨Ao, co, rfl, _, _, _⟩ := hJ.m
            by_cases hlt : j < ts.length ∧ j < 200
            · have hi1 : (j : Int) < (ts.length : Int) := by omega
              have hi2 : (j : Int) < 200 := by omega
              obtain ⟨ad, A', c', rfl, hla, hbd, g0, g1, g2, g3, g4, g5, hy⟩ := (HTS.out.keep (w' := wr) (S' := fun c => ¬ xc.own c ∧ ¬ xb.own c) (Keeps.below_to hf2 fun c h1 h2 => ⟨fun h3 => by have := hJ.ha c h3; omega, fun h3 => by have := hJ.hb c h3; omega⟩)).at j hlt.1
              have hla2 : (ad.add (j * 6)).block < wr.heap.size := hla
              have hS := tstep_calls wr xb.own xc (stepAt ts j) A' c' _ hJ.a hJ.oa (fun c e => hJ.b.own_lt e) hbd hy (tabs_below HT.out hf2) hJ.m
              rw [hJ.ta] at hS
              have HS := Lib.hid hS
              clear hS hJ hy hbd hla hlt
              go_wp2_with (go_at_call 35; refine HS.out.mono ?_; rintro e w7 ⟨v7, rfl, hw7⟩; have HW7 := Lib.hid hw7; clear hw7)
              go_roundw
              case rel =>
                obtain ⟨x', h2, hb⟩ := HJ2.out.1.step (kept_more (kept_vec l h b) _ _ _ _) hf2.size HW7.out
                exact ⟨j + 1, x', by go_num, by omega, Lib.hid ⟨h2, hf2.trans hb⟩⟩
              case measure => simp [intOf]; omega
            · clear hJ
              by_cases hlt2 : j < ts.length
              · have hi1 : (j : Int) < (ts.length : Int) := by omega
                have hi2 : ¬ (j : Int) < 200 := by omega
                have hi3 : decide ((j : Int) < 200) = false := decide_eq_false hi2
                clear hlt hlt2
                have hJc := HJ2.out.1
                have hS2 := tseal_calls wr xc.own xb (hJc.b.mono (by decide)) hJc.ob (tabs_below HT.out hf2) (fun c e => hJc.a.own_lt e)
                rw [hJc.tb] at hS2
                have HS2 := Lib.hid hS2
                clear hS2 hJc hj
                go_wp2_with (go_at_call 36; refine HS2.out.mono ?_; rintro e w9 ⟨x4, rfl, hb9, hx4, ht4, ho4, hm4, hw4, hown4⟩; have hf9 := hf2.trans (hb9.below hf2.size HJ2.out.1.hb); have hS5 := tseal_calls w9 x4.own xc ((HJ2.out.1.a.keep hb9 (fun _ _ e => e) (fun c _ e => hown4 c e)).mono (by decide)) HJ2.out.1.oa (tabs_below HT.out hf9) (fun c e => hx4.own_lt e); rw [HJ2.out.1.ta] at hS5; have HS5 := Lib.hid hS5; have HX4 := Lib.hid (And.intro hb9 (And.intro hx4 (And.intro hm4 hown4))); clear hb9 hx4 ht4 ho4 hm4 hw4 hown4 hS5 HS2)
                go_wp2_with (go_at_call 36; refine HS5.out.mono ?_; rintro e w10 ⟨x5, rfl, hb10, hx5, ht5, ho5, hm5, hw5, hown5⟩; obtain ⟨S9, hq1, hq2, hq3, hq4, ⟨hq5, hq6, hq7⟩, hq8⟩ := HJ2.out.1.ended (kept_more (kept_vec l h b) _ _ _ _) hf2.size HX4.out.1 HX4.out.2.1 HX4.out.2.2.1 HX4.out.2.2.2 hb10 hx5 hm5 hown5; have hf10 := hf2.trans hq8; have HI := Lib.hid (items_calls _ _ _ w10 _ hq6); have HQ := Lib.hid (And.intro hq1 (And.intro hq2 (And.intro hq3 (And.intro hq4 (And.intro hq5 hq7))))); clear hb10 hx5 ht5 ho5 hm5 hw5 hown5 hq1 hq2 hq3 hq4 hq5 hq6 hq7 HS5)
                go_wp2_with (first
                  | (go_at_call 32; refine HI.out.mono ?_; rintro e w11 ⟨v11, rfl, hv11, hb11⟩; have HC := Lib.hid (sames_calls xa.all xa.all _ _ w11 _ _ hv11 (HQ.out.2.2.2.2.2.below hb11)); clear hv11 HI)
                  | (go_at_call 19; refine HC.out.mono ?_; rintro e w12 ⟨rfl, hb12'⟩; rw [eqL_self]; have hb12 := below_then hb11 hb11.size hb12'; have HI2 := Lib.hid (items_calls _ _ _ w12 _ (HQ.out.1.below hb12)); clear HC))
                go_wp2_with (first
                  | (go_at_call 32; refine HI2.out.mono ?_; rintro e w13 ⟨v13, rfl, hv13, hb13'⟩; have hb13 := below_then hb12 hb12.size hb13'; have HC2 := Lib.hid (sames_calls xb.all xb.all _ _ w13 _ _ hv13 (HQ.out.2.2.2.1.below hb13)); clear hv13 HI2)
                  | (go_at_call 19; refine HC2.out.mono ?_; rintro e w14 ⟨rfl, hb14'⟩; rw [eqL_self]; have hb14 := below_then hb13 hb13.size hb14'; have HI3 := Lib.hid (items_calls _ _ _ w14 _ (HQ.out.2.1.below hb14)); clear HC2))
                go_wp2_with (first
                  | (go_at_call 32; refine HI3.out.mono ?_; rintro e w15 ⟨v15, rfl, hv15, hb15'⟩; have hb15 := below_then hb14 hb14.size hb15'; have HC3 := Lib.hid (sames_calls xc.all xc.all _ _ w15 _ _ hv15 (HQ.out.2.2.1.below hb15)); clear hv15 HI3)
                  | (go_at_call 19; refine HC3.out.mono ?_; rintro e w16 ⟨rfl, hb16'⟩; rw [eqL_self]; have hb16 := below_then hb15 hb15.size hb16'; have HI4 := Lib.hid (items_calls _ _ _ w16 _ (HQ.out.2.2.2.2.1.below hb16)); clear HC3))
                go_wp2_with (first
                  | (go_at_call 32; refine HI4.out.mono ?_; rintro e w17 ⟨v17, rfl, hv17, hb17'⟩; have hb17 := below_then hb16 hb16.size hb17'; have hf17 := below_then hf10 hf10.size hb17; have HC4 := Lib.hid (sames_calls l l _ _ w17 _ _ hv17 (HLS.out.below hf17)); clear hv17 HI4)
                  | (go_at_call 19; refine HC4.out.mono ?_; rintro e w18 ⟨rfl, hb18'⟩; rw [eqL_self]; have hf18 := below_then hf17 hf17.size hb18'; clear HC4)
                  | (go_at_call 33; refine (speaks13_calls _ (tabs_below HT.out hf18)).mono ?_; rintro e w19 ⟨rfl, hb19'⟩; have hf19 := below_then hf18 hf18.size hb19'))
                go_ret
                exact ⟨rfl, hf19⟩
              · have hi1 : ¬ (j : Int) < (ts.length : Int) := by omega
                have hi3 : decide ((j : Int) < (ts.length : Int)) = false := decide_eq_false hi1
                clear hlt hlt2
                have hJc := HJ2.out.1
                have hS2 := tseal_calls wr xc.own xb (hJc.b.mono (by decide)) hJc.ob (tabs_below HT.out hf2) (fun c e => hJc.a.own_lt e)
                rw [hJc.tb] at hS2
                have HS2 := Lib.hid hS2
                clear hS2 hJc hj
                go_wp2_with (go_at_call 36; refine HS2.out.mono ?_; rintro e w9 ⟨x4, rfl, hb9, hx4, ht4, ho4, hm4, hw4, hown4⟩; have hf9 := hf2.trans (hb9.below hf2.size HJ2.out.1.hb); have hS5 := tseal_calls w9 x4.own xc ((HJ2.out.1.a.keep hb9 (fun _ _ e => e) (fun c _ e => hown4 c e)).mono (by decide)) HJ2.out.1.oa (tabs_below HT.out hf9) (fun c e => hx4.own_lt e); rw [HJ2.out.1.ta] at hS5; have HS5 := Lib.hid hS5; have HX4 := Lib.hid (And.intro hb9 (And.intro hx4 (And.intro hm4 hown4))); clear hb9 hx4 ht4 ho4 hm4 hw4 hown4 hS5 HS2)
                go_wp2_with (go_at_call 36; refine HS5.out.mono ?_; rintro e w10 ⟨x5, rfl, hb10, hx5, ht5, ho5, hm5, hw5, hown5⟩; obtain ⟨S9, hq1, hq2, hq3, hq4, ⟨hq5, hq6, hq7⟩, hq8⟩ := HJ2.out.1.ended (kept_more (kept_vec l h b) _ _ _ _) hf2.size HX4.out.1 HX4.out.2.1 HX4.out.2.2.1 HX4.out.2.2.2 hb10 hx5 hm5 hown5; have hf10 := hf2.trans hq8; have HI := Lib.hid (items_calls _ _ _ w10 _ hq6); have HQ := Lib.hid (And.intro hq1 (And.intro hq2 (And.intro hq3 (And.intro hq4 (And.intro hq5 hq7))))); clear hb10 hx5 ht5 ho5 hm5 hw5 hown5 hq1 hq2 hq3 hq4 hq5 hq6 hq7 HS5)
                go_wp2_with (first
                  | (go_at_call 32; refine HI.out.mono ?_; rintro e w11 ⟨v11, rfl, hv11, hb11⟩; have HC := Lib.hid (sames_calls xa.all xa.all _ _ w11 _ _ hv11 (HQ.out.2.2.2.2.2.below hb11)); clear hv11 HI)
                  | (go_at_call 19; refine HC.out.mono ?_; rintro e w12 ⟨rfl, hb12'⟩; rw [eqL_self]; have hb12 := below_then hb11 hb11.size hb12'; have HI2 := Lib.hid (items_calls _ _ _ w12 _ (HQ.out.1.below hb12)); clear HC))
                go_wp2_with (first
                  | (go_at_call 32; refine HI2.out.mono ?_; rintro e w13 ⟨v13, rfl, hv13, hb13'⟩; have hb13 := below_then hb12 hb12.size hb13'; have HC2 := Lib.hid (sames_calls xb.all xb.all _ _ w13 _ _ hv13 (HQ.out.2.2.2.1.below hb13)); clear hv13 HI2)
                  | (go_at_call 19; refine HC2.out.mono ?_; rintro e w14 ⟨rfl, hb14'⟩; rw [eqL_self]; have hb14 := below_then hb13 hb13.size hb14'; have HI3 := Lib.hid (items_calls _ _ _ w14 _ (HQ.out.2.1.below hb14)); clear HC2))
                go_wp2_with (first
                  | (go_at_call 32; refine HI3.out.mono ?_; rintro e w15 ⟨v15, rfl, hv15, hb15'⟩; have hb15 := below_then hb14 hb14.size hb15'; have HC3 := Lib.hid (sames_calls xc.all xc.all _ _ w15 _ _ hv15 (HQ.out.2.2.1.below hb15)); clear hv15 HI3)
                  | (go_at_call 19; refine HC3.out.mono ?_; rintro e w16 ⟨rfl, hb16'⟩; rw [eqL_self]; have hb16 := below_then hb15 hb15.size hb16'; have HI4 := Lib.hid (items_calls _ _ _ w16 _ (HQ.out.2.2.2.2.1.below hb16)); clear HC3))
                go_wp2_with (first
                  | (go_at_call 32; refine HI4.out.mono ?_; rintro e w17 ⟨v17, rfl, hv17, hb17'⟩; have hb17 := below_then hb16 hb16.size hb17'; have hf17 := below_then hf10 hf10.size hb17; have HC4 := Lib.hid (sames_calls l l _ _ w17 _ _ hv17 (HLS.out.below hf17)); clear hv17 HI4)
                  | (go_at_call 19; refine HC4.out.mono ?_; rintro e w18 ⟨rfl, hb18'⟩; rw [eqL_self]; have hf18 := below_then hf17 hf17.size hb18'; clear HC4)
                  | (go_at_call 33; refine (speaks13_calls _ (tabs_below HT.out hf18)).mono ?_; rintro e w19 ⟨rfl, hb19'⟩; have hf19 := below_then hf18 hf18.size hb19'))
                go_ret
                exact ⟨rfl, hf19⟩
        · have hi1 : ¬ (i : Int) < (ts.length : Int) := by omega
          have hi3 : decide ((i : Int) < (ts.length : Int)) = false := decide_eq_false hi1
          clear hlt hlt2
          have hS := tseal_calls wr xb.own xa (hJ.a.mono (by decide)) hJ.oa (tabs_below HT.out hf) (fun c e => hJ.b.own_lt e)
          rw [hJ.ta] at hS
          have HS := Lib.hid hS
          clear hS hJ hi
          go_wp2_with (go_at_call 36; refine HS.out.mono ?_; rintro e w5 ⟨x3, rfl, hb7, hx3, ht3, ho3, hm3, hw3, hown3⟩; have hf5 := hf.trans (hb7.below hf.size HJ.out.1.ha); have hv3 := hx3.vec; rw [hm3] at hv3; have HBG3 := Lib.hid (begin_calls xa.all x3.h x3.b w5 xb.own (hv3.keep (Keeps.weak fun _ h => h.2)) (fun c e => Nat.lt_of_lt_of_le (HJ.out.1.b.own_lt e) hb7.size) (Nat.le_trans h2w hf5.size)); have HX3 := Lib.hid hx3; have HB7 := Lib.hid hb7; have HM3 := Lib.hid hm3; have HO3 := Lib.hid hown3; clear hb7 hx3 ht3 ho3 hm3 hw3 hown3 hv3)
          go_wp2_with (go_at_call 34; refine HBG3.out.mono ?_; rintro e w6 ⟨rfl, hx6, hb8⟩; have hf6 := below_then hf5 hf5.size hb8; have H6 := Lib.hid (HJ.out.1.anew (kept_vec l h b) hf.size HB7.out HX3.out HM3.out HO3.out hx6 hb8); clear hx6 HBG3)
          clear hi1 hi3
          go_loopw [16, 17] (fun vo vi W => ∃ (j : Nat) (xc : Tr), vi = .int .i64 j ∧ j ≤ ts.length ∧ Hid (Two (fun S w => IsR w S l h b ∧ IsR w S xa.all x3.h x3.b ∧ IsS w S xa.all (.slice Am xa.all.length cm)) w.heap.size W w5.heap.size w3.heap.size xc xb vo (.slice An xb.all.length cn) ∧ Below w.heap.size w W)) (fun _ v _ => ts.length - (intOf v).toNat)
          case atStart => exact ⟨0, _, rfl, by omega, Lib.hid ⟨H6.out, hf6⟩⟩
          case round =>
            obtain ⟨j, xc, rfl, hj, HJ2⟩ := hrel
            obtain ⟨hJ, hf2⟩ := HJ2.out
            obtain ⟨Ao, co, rfl, _, _, _⟩ := hJ.m
            by_cases hlt : j < ts.length ∧ j < 200
            · have hi1 : (j : Int) < (ts.length : Int) := by omega
              have hi2 : (j : Int) < 200 := by omega
              obtain ⟨ad, A', c', rfl, hla, hbd, g0, g1, g2, g3, g4, g5, hy⟩ := (HTS.out.keep (w' := wr) (S' := fun c => ¬ xc.own c ∧ ¬ xb.own c) (Keeps.below_to hf2 fun c h1 h2 => ⟨fun h3 => by have := hJ.ha c h3; omega, fun h3 => by have := hJ.hb c h3; omega⟩)).at j hlt.1
              have hla2 : (ad.add (j * 6)).block < wr.heap.size := hla
              have hS := tstep_calls wr xb.own xc (stepAt ts j) A' c' _ hJ.a hJ.oa (fun c e => hJ.b.own_lt e) hbd hy (tabs_below HT.out hf2) hJ.m
              rw [hJ.ta] at hS
              have HS := Lib.hid hS
              clear hS hJ hy hbd hla hlt
              go_wp2_with (go_at_call 35; refine HS.out.mono ?_; rintro e w7 ⟨v7, rfl, hw7⟩; have HW7 := Lib.hid hw7; clear hw7)
              go_roundw
              case rel =>
                obtain ⟨x', h2, hb⟩ := HJ2.out.1.step (kept_more (kept_vec l h b) _ _ _ _) hf2.size HW7.out
                exact ⟨j + 1, x', by go_num, by omega, Lib.hid ⟨h2, hf2.trans hb⟩⟩
              case measure => simp [intOf]; omega
            · clear hJ
              by_cases hlt2 : j < ts.length
              · have hi1 : (j : Int) < (ts.length : Int) := by omega
                have hi2 : ¬ (j : Int) < 200 := by omega
                have hi3 : decide ((j : Int) < 200) = false := decide_eq_false hi2
                clear hlt hlt2
                have hJc := HJ2.out.1
                have hS2 := tseal_calls wr xc.own xb (hJc.b.mono (by decide)) hJc.ob (tabs_below HT.out hf2) (fun c e => hJc.a.own_lt e)
                rw [hJc.tb] at hS2
                have HS2 := Lib.hid hS2
                clear hS2 hJc hj
                go_wp2_with (go_at_call 36; refine HS2.out.mono ?_; rintro e w9 ⟨x4, rfl, hb9, hx4, ht4, ho4, hm4, hw4, hown4⟩; have hf9 := hf2.trans (hb9.below hf2.size HJ2.out.1.hb); have hS5 := tseal_calls w9 x4.own xc ((HJ2.out.1.a.keep hb9 (fun _ _ e => e) (fun c _ e => hown4 c e)).mono (by decide)) HJ2.out.1.oa (tabs_below HT.out hf9) (fun c e => hx4.own_lt e); rw [HJ2.out.1.ta] at hS5; have HS5 := Lib.hid hS5; have HX4 := Lib.hid (And.intro hb9 (And.intro hx4 (And.intro hm4 hown4))); clear hb9 hx4 ht4 ho4 hm4 hw4 hown4 hS5 HS2)
                go_wp2_with (go_at_call 36; refine HS5.out.mono ?_; rintro e w10 ⟨x5, rfl, hb10, hx5, ht5, ho5, hm5, hw5, hown5⟩; obtain ⟨S9, hq1, hq2, hq3, hq4, ⟨hq5, hq6, hq7⟩, hq8⟩ := HJ2.out.1.ended (kept_more (kept_vec l h b) _ _ _ _) hf2.size HX4.out.1 HX4.out.2.1 HX4.out.2.2.1 HX4.out.2.2.2 hb10 hx5 hm5 hown5; have hf10 := hf2.trans hq8; have HI := Lib.hid (items_calls _ _ _ w10 _ hq6); have HQ := Lib.hid (And.intro hq1 (And.intro hq2 (And.intro hq3 (And.intro hq4 (And.intro hq5 hq7))))); clear hb10 hx5 ht5 ho5 hm5 hw5 hown5 hq1 hq2 hq3 hq4 hq5 hq6 hq7 HS5)
                go_wp2_with (first
                  | (go_at_call 32; refine HI.out.mono ?_; rintro e w11 ⟨v11, rfl, hv11, hb11⟩; have HC := Lib.hid (sames_calls xa.all xa.all _ _ w11 _ _ hv11 (HQ.out.2.2.2.2.2.below hb11)); clear hv11 HI)
                  | (go_at_call 19; refine HC.out.mono ?_; rintro e w12 ⟨rfl, hb12'⟩; rw [eqL_self]; have hb12 := below_then hb11 hb11.size hb12'; have HI2 := Lib.hid (items_calls _ _ _ w12 _ (HQ.out.1.below hb12)); clear HC))
                go_wp2_with (first
                  | (go_at_call 32; refine HI2.out.mono ?_; rintro e w13 ⟨v13, rfl, hv13, hb13'⟩; have hb13 := below_then hb12 hb12.size hb13'; have HC2 := Lib.hid (sames_calls xb.all xb.all _ _ w13 _ _ hv13 (HQ.out.2.2.2.1.below hb13)); clear hv13 HI2)
                  | (go_at_call 19; refine HC2.out.mono ?_; rintro e w14 ⟨rfl, hb14'⟩; rw [eqL_self]; have hb14 := below_then hb13 hb13.size hb14'; have HI3 := Lib.hid (items_calls _ _ _ w14 _ (HQ.out.2.1.below hb14)); clear HC2))
                go_wp2_with (first
                  | (go_at_call 32; refine HI3.out.mono ?_; rintro e w15 ⟨v15, rfl, hv15, hb15'⟩; have hb15 := below_then hb14 hb14.size hb15'; have HC3 := Lib.hid (sames_calls xc.all xc.all _ _ w15 _ _ hv15 (HQ.out.2.2.1.below hb15)); clear hv15 HI3)
                  | (go_at_call 19; refine HC3.out.mono ?_; rintro e w16 ⟨rfl, hb16'⟩; rw [eqL_self]; have hb16 := below_then hb15 hb15.size hb16'; have HI4 := Lib.hid (items_calls _ _ _ w16 _ (HQ.out.2.2.2.2.1.below hb16)); clear HC3))
                go_wp2_with (first
                  | (go_at_call 32; refine HI4.out.mono ?_; rintro e w17 ⟨v17, rfl, hv17, hb17'⟩; have hb17 := below_then hb16 hb16.size hb17'; have hf17 := below_then hf10 hf10.size hb17; have HC4 := Lib.hid (sames_calls l l _ _ w17 _ _ hv17 (HLS.out.below hf17)); clear hv17 HI4)
                  | (go_at_call 19; refine HC4.out.mono ?_; rintro e w18 ⟨rfl, hb18'⟩; rw [eqL_self]; have hf18 := below_then hf17 hf17.size hb18'; clear HC4)
                  | (go_at_call 33; refine (speaks13_calls _ (tabs_below HT.out hf18)).mono ?_; rintro e w19 ⟨rfl, hb19'⟩; have hf19 := below_then hf18 hf18.size hb19'))
                go_ret
                exact ⟨rfl, hf19⟩
              · have hi1 : ¬ (j : Int) < (ts.length : Int) := by omega
                have hi3 : decide ((j : Int) < (ts.length : Int)) = false := decide_eq_false hi1
                clear hlt hlt2
                have hJc := HJ2.out.1
                have hS2 := tseal_calls wr xc.own xb (hJc.b.mono (by decide)) hJc.ob (tabs_below HT.out hf2) (fun c e => hJc.a.own_lt e)
                rw [hJc.tb] at hS2
                have HS2 := Lib.hid hS2
                clear hS2 hJc hj
                go_wp2_with (go_at_call 36; refine HS2.out.mono ?_; rintro e w9 ⟨x4, rfl, hb9, hx4, ht4, ho4, hm4, hw4, hown4⟩; have hf9 := hf2.trans (hb9.below hf2.size HJ2.out.1.hb); have hS5 := tseal_calls w9 x4.own xc ((HJ2.out.1.a.keep hb9 (fun _ _ e => e) (fun c _ e => hown4 c e)).mono (by decide)) HJ2.out.1.oa (tabs_below HT.out hf9) (fun c e => hx4.own_lt e); rw [HJ2.out.1.ta] at hS5; have HS5 := Lib.hid hS5; have HX4 := Lib.hid (And.intro hb9 (And.intro hx4 (And.intro hm4 hown4))); clear hb9 hx4 ht4 ho4 hm4 hw4 hown4 hS5 HS2)
                go_wp2_with (go_at_call 36; refine HS5.out.mono ?_; rintro e w10 ⟨x5, rfl, hb10, hx5, ht5, ho5, hm5, hw5, hown5⟩; obtain ⟨S9, hq1, hq2, hq3, hq4, ⟨hq5, hq6, hq7⟩, hq8⟩ := HJ2.out.1.ended (kept_more (kept_vec l h b) _ _ _ _) hf2.size HX4.out.1 HX4.out.2.1 HX4.out.2.2.1 HX4.out.2.2.2 hb10 hx5 hm5 hown5; have hf10 := hf2.trans hq8; have HI := Lib.hid (items_calls _ _ _ w10 _ hq6); have HQ := Lib.hid (And.intro hq1 (And.intro hq2 (And.intro hq3 (And.intro hq4 (And.intro hq5 hq7))))); clear hb10 hx5 ht5 ho5 hm5 hw5 hown5 hq1 hq2 hq3 hq4 hq5 hq6 hq7 HS5)
                go_wp2_with (first
                  | (go_at_call 32; refine HI.out.mono ?_; rintro e w11 ⟨v11, rfl, hv11, hb11⟩; have HC := Lib.hid (sames_calls xa.all xa.all _ _ w11 _ _ hv11 (HQ.out.2.2.2.2.2.below hb11)); clear hv11 HI)
                  | (go_at_call 19; refine HC.out.mono ?_; rintro e w12 ⟨rfl, hb12'⟩; rw [eqL_self]; have hb12 := below_then hb11 hb11.size hb12'; have HI2 := Lib.hid (items_calls _ _ _ w12 _ (HQ.out.1.below hb12)); clear HC))
                go_wp2_with (first
                  | (go_at_call 32; refine HI2.out.mono ?_; rintro e w13 ⟨v13, rfl, hv13, hb13'⟩; have hb13 := below_then hb12 hb12.size hb13'; have HC2 := Lib.hid (sames_calls xb.all xb.all _ _ w13 _ _ hv13 (HQ.out.2.2.2.1.below hb13)); clear hv13 HI2)
                  | (go_at_call 19; refine HC2.out.mono ?_; rintro e w14 ⟨rfl, hb14'⟩; rw [eqL_self]; have hb14 := below_then hb13 hb13.size hb14'; have HI3 := Lib.hid (items_calls _ _ _ w14 _ (HQ.out.2.1.below hb14)); clear HC2))
                go_wp2_with (first
                  | (go_at_call 32; refine HI3.out.mono ?_; rintro e w15 ⟨v15, rfl, hv15, hb15'⟩; have hb15 := below_then hb14 hb14.size hb15'; have HC3 := Lib.hid (sames_calls xc.all xc.all _ _ w15 _ _ hv15 (HQ.out.2.2.1.below hb15)); clear hv15 HI3)
                  | (go_at_call 19; refine HC3.out.mono ?_; rintro e w16 ⟨rfl, hb16'⟩; rw [eqL_self]; have hb16 := below_then hb15 hb15.size hb16'; have HI4 := Lib.hid (items_calls _ _ _ w16 _ (HQ.out.2.2.2.2.1.below hb16)); clear HC3))
                go_wp2_with (first
                  | (go_at_call 32; refine HI4.out.mono ?_; rintro e w17 ⟨v17, rfl, hv17, hb17'⟩; have hb17 := below_then hb16 hb16.size hb17'; have hf17 := below_then hf10 hf10.size hb17; have HC4 := Lib.hid (sames_calls l l _ _ w17 _ _ hv17 (HLS.out.below hf17)); clear hv17 HI4)
                  | (go_at_call 19; refine HC4.out.mono ?_; rintro e w18 ⟨rfl, hb18'⟩; rw [eqL_self]; have hf18 := below_then hf17 hf17.size hb18'; clear HC4)
                  | (go_at_call 33; refine (speaks13_calls _ (tabs_below HT.out hf18)).mono ?_; rintro e w19 ⟨rfl, hb19'⟩; have hf19 := below_then hf18 hf18.size hb19'))
                go_ret
                exact ⟨rfl, hf19⟩
  · have h1 : (listE l != 0) = true := by simpa using h0
    have h2 : (listE l == 0) = false := by simpa using h0
    have HN := Lib.hid h0
    obtain ⟨E, hE⟩ : ∃ E, listE l = E := ⟨_, rfl⟩
    rw [hE] at HOF HN h1 h2 h0
    clear hE
    go_enter Tryd.func9, Tryd.ntmps9
    go_wp2_with (first | (go_at_call 11; refine HOF.out.mono ?_; rintro e w2 ⟨p, rfl, hp, hb2⟩; obtain rfl := (hp.resolve_right (fun h => HN.out h.1)).2; clear hp) | (go_at_call 33; refine (speaks13_calls _ (tabs_below HT.out hb2)).mono ?_; rintro e w5 ⟨rfl, hb5⟩; have hb6 := below_then hb2 hb2.size hb5))
    go_ret
    exact ⟨rfl, hb6⟩
end Go.Proofs.YtaeldfnihocljaaDoor
