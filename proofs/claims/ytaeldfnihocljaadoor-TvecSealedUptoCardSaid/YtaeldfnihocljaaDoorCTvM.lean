/- The law TvecSealed. -/
import Derived.Test.YtaeldfnihocljaaDoorCTvL
import Derived.Test.YtaeldfnihocljaaDoorCTvN

set_option linter.unusedVariables false
set_option linter.unusedSimpArgs false
namespace Go.Proofs.YtaeldfnihocljaaDoor
open Go.RowKit
attribute [local go_sem] lt_succ_of

theorem shut_on {w : World} {R : Nat → Prop} {k t : Nat} {x : Tr} (hx : IsTr w R k x) (ho : x.op = false) (ht : x.t = t) (W : World) (hb : Below w.heap.size w W) : Shut W (.pointer (some ⟨t, 0, none⟩)) := by
  rw [← ht]
  exact shut_of (hx.below hb) ho
theorem store_box6 {w : World} {b0 : Nat} {c0 c1 c2 c3 c4 c5 : Value} {t : TypeId} (h : w.heap[b0]? = some (.cells #[c0, c1, c2, c3, c4, c5] t (0, 0))) (d0 d1 d2 d3 d4 d5 : Value) :
    ∃ w5, (((((w.setCell ⟨b0, 0, none⟩ d0).setCell ⟨b0, 1, none⟩ d1).setCell ⟨b0, 2, none⟩ d2).setCell ⟨b0, 3, none⟩ d3).setCell ⟨b0, 4, none⟩ d4).setCell ⟨b0, 5, none⟩ d5 = w5 ∧ w5.heap[b0]? = some (.cells #[d0, d1, d2, d3, d4, d5] t (0, 0)) ∧ ∀ B, B ≤ b0 → Below B w w5 := by
  refine ⟨_, rfl, ?_, fun B hB => ?_⟩
  · have h1 := blockset h 0 d0
    have h2 := blockset h1 1 d1
    have h3 := blockset h2 2 d2
    have h4 := blockset h3 3 d3
    have h5 := blockset h4 4 d4
    have h6 := blockset h5 5 d5
    simpa using h6
  · repeat refine Below.setCell ?_ hB _
    exact Below.refl _ _
set_option maxRecDepth 100000 in
set_option maxHeartbeats 8000000 in
theorem tvecsealed_calls (l : List V) (ts : List St) (Al : Option Addr) (cl : Nat) (A : Option Addr) (cA : Nat) (w : World) (S : Nat → Prop) (hl : IsS w S l (.slice Al l.length cl)) (hts : IsT w S ts (.slice A ts.length cA)) (hT : Lib.Utf8Tabs 0 1 w) :
    Calls Tryd.prog 8 #[.slice Al l.length cl, .slice A ts.length cA] w fun e w' => e = .returned (.bool true) ∧ Below w.heap.size w w' := by
  have HOF := Lib.hid (of_calls l _ w S hl hT)
  have HTS := Lib.hid hts
  have HT := Lib.hid hT
  have HLS := Lib.hid hl
  have h2w := tabs_size hT
  have htl : ts.length ≤ 4294967296 := by obtain ⟨_, _, _, _, h, _⟩ := hts; exact h
  clear hl hT hts
  by_cases h0 : listE l = 0
  · rw [h0] at HOF
    clear h0
    go_enter Tryd.func8, Tryd.ntmps8
    go_wp2_with (first
      | (go_at_call 11; refine HOF.out.mono ?_; rintro e w2 ⟨p, rfl, hp, hb2⟩; obtain ⟨h, b, rfl, hv⟩ := (hp.resolve_left (fun h => h.1 rfl)).2; have HV := Lib.hid hv; have HBG := Lib.hid (begin_calls _ h b w2 (fun _ => False) (hv.keep (Keeps.weak fun _ _ h => h)) (fun _ h => h.elim) (Nat.le_trans h2w hb2.size)); clear hp hv)
      | (go_at_call 34; refine HBG.out.mono ?_; rintro e w3 ⟨rfl, hx0, hb3⟩; have hb4 := below_then hb2 hb2.size hb3; have HX0 := Lib.hid (hx0.mono (k' := 31) (by decide)); have HV0 := Lib.hid (HV.out.keep (w' := w3) (S' := fun b => ¬ Tr.own ⟨true, l, h, b, [], w2.heap.size, .slice none 0 0⟩ b) (Keeps.below_to hb3 fun b h1 h2 h3 => (by rcases h3 with h3 | h3; exact absurd (show b = w2.heap.size from h3) (Nat.ne_of_lt h1); simp [Value.ownBlock] at h3))); clear hx0))
    go_loopw [8] (fun vi wr => ∃ (i : Nat) (x : Tr), vi = .int .i64 i ∧ i ≤ ts.length ∧ Hid (IsTr wr (fun _ => False) 31 x ∧ x.t = w2.heap.size ∧ x.op = true ∧ High w.heap.size x ∧ IsR wr (fun b => ¬ x.own b) l h b ∧ Below w.heap.size w wr)) (fun v _ => ts.length - (intOf v).toNat)
    case atStart => exact ⟨0, _, rfl, by omega, Lib.hid ⟨HX0.out, rfl, rfl, high_begun hb2, HV0.out, hb4⟩⟩
    case round =>
      obtain ⟨i, x, rfl, hi, HJ⟩ := hrel
      obtain ⟨hx, hxt, hxo, hxh, hv, hf⟩ := HJ.out
      by_cases hlt : i < ts.length / 2 ∧ i < 100
      · have hi1 : (i : Int) < (ts.length : Int) / 2 := by omega
        have hi2 : (i : Int) < 100 := by omega
        have hi3 : (i : Int) < (ts.length : Int) := by omega
        obtain ⟨ad, A', c', rfl, hla, hbd, g0, g1, g2, g3, g4, g5, hy⟩ := (HTS.out.keep (w' := wr) (S' := fun b => ¬ x.own b ∧ ¬ False) (Keeps.below_to hf fun c h1 h2 => ⟨fun h3 => by have := hxh c h3; omega, id⟩)).at i (by omega)
        have hla2 : (ad.add (i * 6)).block < wr.heap.size := hla
        have hS := tpush_calls wr (fun _ => False) x (stepAt ts i).val _ hx hxo (fun _ h => h.elim) hy (tabs_below HT.out hf)
        rw [hxt] at hS
        have HS := Lib.hid hS
        clear hS hx hxo hv hy hbd hla hlt
        go_wp2_with (go_at_call 37; refine HS.out.mono ?_; rintro e w4 ⟨rfl, hw4⟩; have HW4 := Lib.hid hw4; clear hw4)
        go_roundw
        case rel =>
          obtain ⟨hx, hxt, hxo, hxh, hv, hf⟩ := HJ.out
          obtain ⟨hb, x', hx', ht', ho', ha', hown'⟩ := HW4.out
          exact ⟨i + 1, x', by go_num, by omega, Lib.hid ⟨hx', ht'.trans hxt, ho'.trans hxo, fun c hc => (hown' c hc).elim (hxh c) (fun h => Nat.le_trans hf.size h), vec_kept hv hb hown', below_but hf hb hxh⟩⟩
        case measure => simp [intOf]; omega
      · by_cases hlt2 : i < ts.length / 2
        · have hi1 : (i : Int) < (ts.length : Int) / 2 := by omega
          have hi2 : ¬ (i : Int) < 100 := by omega
          have hi3 : decide ((i : Int) < 100) = false := decide_eq_false hi2
          clear hlt hlt2
          have hS := tseal_calls wr (fun _ => False) x (hx.mono (by decide)) hxo (tabs_below HT.out hf) (fun _ h => h.elim)
          rw [hxt] at hS
          have HS := Lib.hid hS
          have HHX := Lib.hid hxh
          have HVV := Lib.hid hv
          clear hS hx hxo hv hxh HJ
          go_wp2_with (first
            | (go_at_call 36; refine HS.out.mono ?_; rintro e w5 ⟨x3, rfl, hb5, hx3, ht3, ho3, hm3, hw3, hown3⟩; have hb6 := below_but hf hb5 HHX.out; have HV5 := Lib.hid (vec_kept HVV.out hb5 (fun b h => .inl (hown3 b h))); have hv3 := hx3.vec; rw [hm3] at hv3; have HI := Lib.hid (items_calls _ _ _ w5 _ hv3); have HX3 := Lib.hid hv3; have HSH := Lib.hid (shut_on hx3 ho3 ht3); clear hb5 hx3 ht3 ho3 hm3 hw3 hown3 hv3))
          go_wp2_with (go_at_call 32; refine HI.out.mono ?_; rintro e w6 ⟨v6, rfl, hv6, hb7'⟩; have hb7 := below_then hb6 hb6.size hb7'; have HK6 := Lib.hid hv6; obtain ⟨Ak, ck, rfl, _, _, _⟩ := hv6; clear HI)
          clear hi hi1 hi3
          go_loopw [12] (fun vi W => ∃ j : Nat, vi = .int .i64 j ∧ j ≤ ts.length ∧ Hid (Below w6.heap.size w6 W)) (fun v _ => ts.length - (intOf v).toNat)
          case atStart => exact ⟨0, rfl, by omega, Lib.hid (Below.refl _ _)⟩
          case round =>
            obtain ⟨j, rfl, hj, HB⟩ := hrel
            have h50 := below_then hb7' hb7'.size HB.out
            have hb8 := below_then hb7 hb7.size HB.out
            by_cases hlt : j < ts.length ∧ j < 100
            · have hi1 : (j : Int) < (ts.length : Int) := by omega
              have hi2 : (j : Int) < 100 := by omega
              obtain ⟨ad, A', c', rfl, hla, hbd, g0, g1, g2, g3, g4, g5, hy⟩ := (HTS.out.keep (w' := wr) (S' := fun _ => True) (Keeps.below_to hb8 fun c h1 h2 => trivial)).at j hlt.1
              have hla2 : (ad.add (j * 6)).block < wr.heap.size := hla
              obtain ⟨w1, hw1, hB1, hsz, hb0⟩ := box6 wr 65 (.int .i64 0) (.int .i64 0) (.int .i64 0) (.int .i64 0) (.string ⟨#[]⟩) (.slice none 0 0)
              clear hlt
              obtain ⟨e0, e1, e2, e3, e4, e5⟩ := block6 hb0
              have fz := free4 hb0
              obtain ⟨w20, hw20, hk20, hB20⟩ := store_box6 hb0 (.int .i64 (stepAt ts j).kind) (.int .i64 (stepAt ts j).at_) (.int .i64 (stepAt ts j).val.kind) (.int .i64 (stepAt ts j).val.num) (.string (stepAt ts j).val.text) (.slice A' (stepAt ts j).val.items.length c')
              have hb21 := hB1.trans (hB20 _ (Nat.le_refl _))
              obtain ⟨f0, f1, f2, f3, f4, f5⟩ := block6 hk20
              have HK := Lib.hid hk20
              have HY := Lib.hid hy
              clear hb0 hy hk20
              have hi0 : -9223372036854775808 ≤ (stepAt ts j).at_ := hbd.a0
              have hi9 : (stepAt ts j).at_ ≤ 9223372036854775807 := hbd.a1
              have h51 := below_then h50 h50.size hb21
              clear hbd
              go_wp2_with (first
                | (go_at_call 38; refine (shutz_nth _ _ _ (fun W _ hb => HSH.out W (below_then h51 h51.size hb))).mono ?_; rintro e w21 ⟨rfl, hb22⟩; have hb23 := hb22.alloc hb22.size (.cells #[.int .i64 0, .int .i64 0, .string ⟨#[]⟩, .slice none 0 0] 31); have h52 := below_then h51 h51.size hb23)
                | (go_at_call 39; refine (shutz_pop _ _ (fun W _ hb => HSH.out W (below_then h52 h52.size hb))).mono ?_; rintro e w22 ⟨rfl, hb24⟩; have hb25 := hb24.alloc hb24.size (.cells #[.int .i64 0, .int .i64 0, .string ⟨#[]⟩, .slice none 0 0] 31); have h53 := below_then h52 h52.size hb25)
                | (go_at_call 40; refine (shut_len _ _ (HSH.out _ h53)).mono ?_; rintro e w23 ⟨rfl, hb26⟩; have h54 := below_then h53 h53.size hb26)
                | (go_at_call 36; refine (shut_seal _ _ (HSH.out _ h54)).mono ?_; rintro e w24 ⟨rfl, hb27⟩; have h55 := below_then h54 h54.size hb27; have hb28 := below_then (below_then (below_then hb23 hb23.size hb25) (below_then hb23 hb23.size hb25).size hb26) (below_then (below_then hb23 hb23.size hb25) (below_then hb23 hb23.size hb25).size hb26).size hb27; obtain ⟨p0, p1, p2, p3, p4, p5⟩ := block6 (blockB hb28 HK.out))
                | (go_at_call 41; refine (shut_set _ _ _ _ _ _ ((HY.out.below hb21).below hb28) (fun W _ hb => HSH.out W (below_then h55 h55.size hb))).mono ?_; rintro e w25 ⟨rfl, hb29⟩; have h56 := below_then h55 h55.size hb29; have hb30 := below_then hb28 hb28.size hb29; obtain ⟨q0, q1, q2, q3, q4, q5⟩ := block6 (blockB hb30 HK.out))
                | (go_at_call 37; refine (shut_push _ _ _ _ _ ((HY.out.below hb21).below hb30) (fun W _ hb => HSH.out W (below_then h56 h56.size hb))).mono ?_; rintro e w26 ⟨rfl, hb31⟩; have hb32 := below_then hb30 hb30.size hb31; have hb33 := below_then hb21 hb21.size hb32))
              go_roundw
              case rel => exact ⟨j + 1, by go_num, by omega, Lib.hid (below_then HB.out HB.out.size hb33)⟩
              case measure => simp [intOf]; omega
            · by_cases hlt2 : j < ts.length
              · have hi1 : (j : Int) < (ts.length : Int) := by omega
                have hi2 : ¬ (j : Int) < 100 := by omega
                have hi3 : decide ((j : Int) < 100) = false := decide_eq_false hi2
                clear hlt hlt2
                have HI1 := Lib.hid (items_calls _ _ _ wr _ ((HX3.out.below hb7').below HB.out))
                go_wp2_with (first
                  | (go_at_call 32; refine HI1.out.mono ?_; rintro e w30 ⟨v30, rfl, hv30, hb31'⟩; have hb31 := below_then hb8 hb8.size hb31'; have h61 := below_then HB.out HB.out.size hb31'; have HC := Lib.hid (sames_calls x.all x.all _ _ w30 _ _ hv30 (HK6.out.below h61)); clear hv30 HI1)
                  | (go_at_call 19; refine HC.out.mono ?_; rintro e w31 ⟨rfl, hb32'⟩; rw [eqL_self]; have hb32 := below_then hb31 hb31.size hb32'; have h62 := below_then h61 h61.size hb32'; have HI2 := Lib.hid (items_calls _ _ _ w31 _ ((HV5.out.below hb7').below h62)); clear HC))
                go_wp2_with (first
                  | (go_at_call 32; refine HI2.out.mono ?_; rintro e w32 ⟨v32, rfl, hv32, hb33'⟩; have hb33 := below_then hb32 hb32.size hb33'; have HC2 := Lib.hid (sames_calls l l _ _ w32 _ _ hv32 (HLS.out.below hb33)); clear hv32)
                  | (go_at_call 19; refine HC2.out.mono ?_; rintro e w33 ⟨rfl, hb34'⟩; rw [eqL_self]; have hb34 := below_then hb33 hb33.size hb34')
                  | (go_at_call 33; refine (speaks13_calls _ (tabs_below HT.out hb34)).mono ?_; rintro e w35 ⟨rfl, hb35'⟩; have hb35 := below_then hb34 hb34.size hb35'))
                go_ret
                exact ⟨rfl, hb35⟩
              · have hi1 : ¬ (j : Int) < (ts.length : Int) := by omega
                have hi3 : decide ((j : Int) < (ts.length : Int)) = false := decide_eq_false hi1
                clear hlt hlt2
                have HI1 := Lib.hid (items_calls _ _ _ wr _ ((HX3.out.below hb7').below HB.out))
                go_wp2_with (first
                  | (go_at_call 32; refine HI1.out.mono ?_; rintro e w30 ⟨v30, rfl, hv30, hb31'⟩; have hb31 := below_then hb8 hb8.size hb31'; have h61 := below_then HB.out HB.out.size hb31'; have HC := Lib.hid (sames_calls x.all x.all _ _ w30 _ _ hv30 (HK6.out.below h61)); clear hv30 HI1)
                  | (go_at_call 19; refine HC.out.mono ?_; rintro e w31 ⟨rfl, hb32'⟩; rw [eqL_self]; have hb32 := below_then hb31 hb31.size hb32'; have h62 := below_then h61 h61.size hb32'; have HI2 := Lib.hid (items_calls _ _ _ w31 _ ((HV5.out.below hb7').below h62)); clear HC))
                go_wp2_with (first
                  | (go_at_call 32; refine HI2.out.mono ?_; rintro e w32 ⟨v32, rfl, hv32, hb33'⟩; have hb33 := below_then hb32 hb32.size hb33'; have HC2 := Lib.hid (sames_calls l l _ _ w32 _ _ hv32 (HLS.out.below hb33)); clear hv32)
                  | (go_at_call 19; refine HC2.out.mono ?_; rintro e w33 ⟨rfl, hb34'⟩; rw [eqL_self]; have hb34 := below_then hb33 hb33.size hb34')
                  | (go_at_call 33; refine (speaks13_calls _ (tabs_below HT.out hb34)).mono ?_; rintro e w35 ⟨rfl, hb35'⟩; have hb35 := below_then hb34 hb34.size hb35'))
                go_ret
                exact ⟨rfl, hb35⟩
        · have hi1 : ¬ (i : Int) < (ts.length : Int) / 2 := by omega
          have hi3 : decide ((i : Int) < (ts.length : Int) / 2) = false := decide_eq_false hi1
          clear hlt hlt2
          have hS := tseal_calls wr (fun _ => False) x (hx.mono (by decide)) hxo (tabs_below HT.out hf) (fun _ h => h.elim)
          rw [hxt] at hS
          have HS := Lib.hid hS
          have HHX := Lib.hid hxh
          have HVV := Lib.hid hv
          clear hS hx hxo hv hxh HJ
          go_wp2_with (first
            | (go_at_call 36; refine HS.out.mono ?_; rintro e w5 ⟨x3, rfl, hb5, hx3, ht3, ho3, hm3, hw3, hown3⟩; have hb6 := below_but hf hb5 HHX.out; have HV5 := Lib.hid (vec_kept HVV.out hb5 (fun b h => .inl (hown3 b h))); have hv3 := hx3.vec; rw [hm3] at hv3; have HI := Lib.hid (items_calls _ _ _ w5 _ hv3); have HX3 := Lib.hid hv3; have HSH := Lib.hid (shut_on hx3 ho3 ht3); clear hb5 hx3 ht3 ho3 hm3 hw3 hown3 hv3))
          go_wp2_with (go_at_call 32; refine HI.out.mono ?_; rintro e w6 ⟨v6, rfl, hv6, hb7'⟩; have hb7 := below_then hb6 hb6.size hb7'; have HK6 := Lib.hid hv6; obtain ⟨Ak, ck, rfl, _, _, _⟩ := hv6; clear HI)
          clear hi hi1 hi3
          go_loopw [12] (fun vi W => ∃ j : Nat, vi = .int .i64 j ∧ j ≤ ts.length ∧ Hid (Below w6.heap.size w6 W)) (fun v _ => ts.length - (intOf v).toNat)
          case atStart => exact ⟨0, rfl, by omega, Lib.hid (Below.refl _ _)⟩
          case round =>
            obtain ⟨j, rfl, hj, HB⟩ := hrel
            have h50 := below_then hb7' hb7'.size HB.out
            have hb8 := below_then hb7 hb7.size HB.out
            by_cases hlt : j < ts.length ∧ j < 100
            · have hi1 : (j : Int) < (ts.length : Int) := by omega
              have hi2 : (j : Int) < 100 := by omega
              obtain ⟨ad, A', c', rfl, hla, hbd, g0, g1, g2, g3, g4, g5, hy⟩ := (HTS.out.keep (w' := wr) (S' := fun _ => True) (Keeps.below_to hb8 fun c h1 h2 => trivial)).at j hlt.1
              have hla2 : (ad.add (j * 6)).block < wr.heap.size := hla
              obtain ⟨w1, hw1, hB1, hsz, hb0⟩ := box6 wr 65 (.int .i64 0) (.int .i64 0) (.int .i64 0) (.int .i64 0) (.string ⟨#[]⟩) (.slice none 0 0)
              clear hlt
              obtain ⟨e0, e1, e2, e3, e4, e5⟩ := block6 hb0
              have fz := free4 hb0
              obtain ⟨w20, hw20, hk20, hB20⟩ := store_box6 hb0 (.int .i64 (stepAt ts j).kind) (.int .i64 (stepAt ts j).at_) (.int .i64 (stepAt ts j).val.kind) (.int .i64 (stepAt ts j).val.num) (.string (stepAt ts j).val.text) (.slice A' (stepAt ts j).val.items.length c')
              have hb21 := hB1.trans (hB20 _ (Nat.le_refl _))
              obtain ⟨f0, f1, f2, f3, f4, f5⟩ := block6 hk20
              have HK := Lib.hid hk20
              have HY := Lib.hid hy
              clear hb0 hy hk20
              have hi0 : -9223372036854775808 ≤ (stepAt ts j).at_ := hbd.a0
              have hi9 : (stepAt ts j).at_ ≤ 9223372036854775807 := hbd.a1
              have h51 := below_then h50 h50.size hb21
              clear hbd
              go_wp2_with (first
                | (go_at_call 38; refine (shutz_nth _ _ _ (fun W _ hb => HSH.out W (below_then h51 h51.size hb))).mono ?_; rintro e w21 ⟨rfl, hb22⟩; have hb23 := hb22.alloc hb22.size (.cells #[.int .i64 0, .int .i64 0, .string ⟨#[]⟩, .slice none 0 0] 31); have h52 := below_then h51 h51.size hb23)
                | (go_at_call 39; refine (shutz_pop _ _ (fun W _ hb => HSH.out W (below_then h52 h52.size hb))).mono ?_; rintro e w22 ⟨rfl, hb24⟩; have hb25 := hb24.alloc hb24.size (.cells #[.int .i64 0, .int .i64 0, .string ⟨#[]⟩, .slice none 0 0] 31); have h53 := below_then h52 h52.size hb25)
                | (go_at_call 40; refine (shut_len _ _ (HSH.out _ h53)).mono ?_; rintro e w23 ⟨rfl, hb26⟩; have h54 := below_then h53 h53.size hb26)
                | (go_at_call 36; refine (shut_seal _ _ (HSH.out _ h54)).mono ?_; rintro e w24 ⟨rfl, hb27⟩; have h55 := below_then h54 h54.size hb27; have hb28 := below_then (below_then (below_then hb23 hb23.size hb25) (below_then hb23 hb23.size hb25).size hb26) (below_then (below_then hb23 hb23.size hb25) (below_then hb23 hb23.size hb25).size hb26).size hb27; obtain ⟨p0, p1, p2, p3, p4, p5⟩ := block6 (blockB hb28 HK.out))
                | (go_at_call 41; refine (shut_set _ _ _ _ _ _ ((HY.out.below hb21).below hb28) (fun W _ hb => HSH.out W (below_then h55 h55.size hb))).mono ?_; rintro e w25 ⟨rfl, hb29⟩; have h56 := below_then h55 h55.size hb29; have hb30 := below_then hb28 hb28.size hb29; obtain ⟨q0, q1, q2, q3, q4, q5⟩ := block6 (blockB hb30 HK.out))
                | (go_at_call 37; refine (shut_push _ _ _ _ _ ((HY.out.below hb21).below hb30) (fun W _ hb => HSH.out W (below_then h56 h56.size hb))).mono ?_; rintro e w26 ⟨rfl, hb31⟩; have hb32 := below_then hb30 hb30.size hb31; have hb33 := below_then hb21 hb21.size hb32))
              go_roundw
              case rel => exact ⟨j + 1, by go_num, by omega, Lib.hid (below_then HB.out HB.out.size hb33)⟩
              case measure => simp [intOf]; omega
            · by_cases hlt2 : j < ts.length
              · have hi1 : (j : Int) < (ts.length : Int) := by omega
                have hi2 : ¬ (j : Int) < 100 := by omega
                have hi3 : decide ((j : Int) < 100) = false := decide_eq_false hi2
                clear hlt hlt2
                have HI1 := Lib.hid (items_calls _ _ _ wr _ ((HX3.out.below hb7').below HB.out))
                go_wp2_with (first
                  | (go_at_call 32; refine HI1.out.mono ?_; rintro e w30 ⟨v30, rfl, hv30, hb31'⟩; have hb31 := below_then hb8 hb8.size hb31'; have h61 := below_then HB.out HB.out.size hb31'; have HC := Lib.hid (sames_calls x.all x.all _ _ w30 _ _ hv30 (HK6.out.below h61)); clear hv30 HI1)
                  | (go_at_call 19; refine HC.out.mono ?_; rintro e w31 ⟨rfl, hb32'⟩; rw [eqL_self]; have hb32 := below_then hb31 hb31.size hb32'; have h62 := below_then h61 h61.size hb32'; have HI2 := Lib.hid (items_calls _ _ _ w31 _ ((HV5.out.below hb7').below h62)); clear HC))
                go_wp2_with (first
                  | (go_at_call 32; refine HI2.out.mono ?_; rintro e w32 ⟨v32, rfl, hv32, hb33'⟩; have hb33 := below_then hb32 hb32.size hb33'; have HC2 := Lib.hid (sames_calls l l _ _ w32 _ _ hv32 (HLS.out.below hb33)); clear hv32)
                  | (go_at_call 19; refine HC2.out.mono ?_; rintro e w33 ⟨rfl, hb34'⟩; rw [eqL_self]; have hb34 := below_then hb33 hb33.size hb34')
                  | (go_at_call 33; refine (speaks13_calls _ (tabs_below HT.out hb34)).mono ?_; rintro e w35 ⟨rfl, hb35'⟩; have hb35 := below_then hb34 hb34.size hb35'))
                go_ret
                exact ⟨rfl, hb35⟩
              · have hi1 : ¬ (j : Int) < (ts.length : Int) := by omega
                have hi3 : decide ((j : Int) < (ts.length : Int)) = false := decide_eq_false hi1
                clear hlt hlt2
                have HI1 := Lib.hid (items_calls _ _ _ wr _ ((HX3.out.below hb7').below HB.out))
                go_wp2_with (first
                  | (go_at_call 32; refine HI1.out.mono ?_; rintro e w30 ⟨v30, rfl, hv30, hb31'⟩; have hb31 := below_then hb8 hb8.size hb31'; have h61 := below_then HB.out HB.out.size hb31'; have HC := Lib.hid (sames_calls x.all x.all _ _ w30 _ _ hv30 (HK6.out.below h61)); clear hv30 HI1)
                  | (go_at_call 19; refine HC.out.mono ?_; rintro e w31 ⟨rfl, hb32'⟩; rw [eqL_self]; have hb32 := below_then hb31 hb31.size hb32'; have h62 := below_then h61 h61.size hb32'; have HI2 := Lib.hid (items_calls _ _ _ w31 _ ((HV5.out.below hb7').below h62)); clear HC))
                go_wp2_with (first
                  | (go_at_call 32; refine HI2.out.mono ?_; rintro e w32 ⟨v32, rfl, hv32, hb33'⟩; have hb33 := below_then hb32 hb32.size hb33'; have HC2 := Lib.hid (sames_calls l l _ _ w32 _ _ hv32 (HLS.out.below hb33)); clear hv32)
                  | (go_at_call 19; refine HC2.out.mono ?_; rintro e w33 ⟨rfl, hb34'⟩; rw [eqL_self]; have hb34 := below_then hb33 hb33.size hb34')
                  | (go_at_call 33; refine (speaks13_calls _ (tabs_below HT.out hb34)).mono ?_; rintro e w35 ⟨rfl, hb35'⟩; have hb35 := below_then hb34 hb34.size hb35'))
                go_ret
                exact ⟨rfl, hb35⟩
  · have h1 : (listE l != 0) = true := by simpa using h0
    have h2 : (listE l == 0) = false := by simpa using h0
    have HN := Lib.hid h0
    obtain ⟨E, hE⟩ : ∃ E, listE l = E := ⟨_, rfl⟩
    rw [hE] at HOF HN h1 h2 h0
    clear hE
    go_enter Tryd.func8, Tryd.ntmps8
    go_wp2_with (first | (go_at_call 11; refine HOF.out.mono ?_; rintro e w2 ⟨p, rfl, hp, hb2⟩; obtain rfl := (hp.resolve_right (fun h => HN.out h.1)).2; clear hp) | (go_at_call 33; refine (speaks13_calls _ (tabs_below HT.out hb2)).mono ?_; rintro e w5 ⟨rfl, hb5⟩; have hb6 := below_then hb2 hb2.size hb5))
    go_ret
    exact ⟨rfl, hb6⟩
end Go.Proofs.YtaeldfnihocljaaDoor
