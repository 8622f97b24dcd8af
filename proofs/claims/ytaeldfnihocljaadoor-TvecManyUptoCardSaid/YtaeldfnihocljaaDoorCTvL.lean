/- The law TvecSteps. -/
import Derived.Test.YtaeldfnihocljaaDoorCTvS

set_option linter.unusedVariables false
set_option linter.unusedSimpArgs false
namespace Go.Proofs.YtaeldfnihocljaaDoor
open Go.RowKit
attribute [local go_sem] lt_succ_of

/-- A transient that no block below n belongs to. -/
def High (n : Nat) (x : Tr) : Prop := ∀ b, x.own b → n ≤ b
theorem high_begun {w w4 : World} {l : List V} {h b : Nat} (hb : Below w.heap.size w w4) : High w.heap.size ⟨true, l, h, b, [], w4.heap.size, .slice none 0 0⟩ := fun c hc => begun_high hb c hc
set_option maxRecDepth 100000 in
set_option maxHeartbeats 8000000 in
theorem tvecsteps_calls (l : List V) (ts : List St) (Al : Option Addr) (cl : Nat) (A : Option Addr) (cA : Nat) (w : World) (S : Nat → Prop) (hl : IsS w S l (.slice Al l.length cl)) (hts : IsT w S ts (.slice A ts.length cA)) (hT : Lib.Utf8Tabs 0 1 w) :
    Calls Tryd.prog 7 #[.slice Al l.length cl, .slice A ts.length cA] w fun e w' => e = .returned (.bool true) ∧ Below w.heap.size w w' := by
  have HOF := Lib.hid (of_calls l _ w S hl hT)
  have HTS := Lib.hid hts
  have HT := Lib.hid hT
  have HLS := Lib.hid hl
  have h2w := tabs_size hT
  have htl : ts.length ≤ 4294967296 := by obtain ⟨_, _, _, _, h, _⟩ := hts; exact h
  clear hl hT hts
  by_cases h0 : listE l = 0
  · rw [h0] at HOF
    clear h0
    go_enter Tryd.func7, Tryd.ntmps7
    go_wp2_with (first
      | (go_at_call 11; refine HOF.out.mono ?_; rintro e w2 ⟨p, rfl, hp, hb2⟩; obtain ⟨h, b, rfl, hv⟩ := (hp.resolve_left (fun h => h.1 rfl)).2; have HV := Lib.hid hv; have HBG := Lib.hid (begin_calls _ h b w2 (fun _ => False) (hv.keep (Keeps.weak fun _ _ h => h)) (fun _ h => h.elim) (Nat.le_trans h2w hb2.size)); clear hp hv)
      | (go_at_call 34; refine HBG.out.mono ?_; rintro e w3 ⟨rfl, hx0, hb3⟩; have hb4 := below_then hb2 hb2.size hb3; have HX0 := Lib.hid (hx0.mono (k' := 31) (by decide)); have HV0 := Lib.hid (HV.out.keep (w' := w3) (S' := fun b => ¬ Tr.own ⟨true, l, h, b, [], w2.heap.size, .slice none 0 0⟩ b) (Keeps.below_to hb3 fun b h1 h2 h3 => (by rcases h3 with h3 | h3; exact absurd (show b = w2.heap.size from h3) (Nat.ne_of_lt h1); simp [Value.ownBlock] at h3))); clear hx0))
    go_loopw [8, 9] (fun vm vi wr => ∃ (i : Nat) (x : Tr), vi = .int .i64 i ∧ i ≤ ts.length ∧ Hid (IsTr wr (fun _ => False) 31 x ∧ x.t = w2.heap.size ∧ x.op = true ∧ High w.heap.size x ∧ IsS wr (fun b => ¬ x.own b ∧ ¬ False) x.all vm ∧ IsR wr (fun b => ¬ x.own b) l h b ∧ Below w.heap.size w wr)) (fun _ v _ => ts.length - (intOf v).toNat)
    case atStart => exact ⟨0, _, rfl, by omega, Lib.hid ⟨HX0.out, rfl, rfl, high_begun hb2, (show IsS w3 _ (l ++ []) _ by rw [List.append_nil]; exact HLS.out.keep (Keeps.below_to hb4 fun c h1 h2 => ⟨fun h3 => by have := high_begun hb2 c h3; omega, id⟩)), HV0.out, hb4⟩⟩
    case round =>
      obtain ⟨i, x, rfl, hi, HJ⟩ := hrel
      obtain ⟨hx, hxt, hxo, hxh, hm, hv, hf⟩ := HJ.out
      have hm0 := hm
      obtain ⟨Am, cm, rfl, _, _, _⟩ := hm0
      by_cases hlt : i < ts.length ∧ i < 300
      · have hi1 : (i : Int) < (ts.length : Int) := by omega
        have hi2 : (i : Int) < 300 := by omega
        obtain ⟨ad, A', c', rfl, hla, hbd, g0, g1, g2, g3, g4, g5, hy⟩ := (HTS.out.keep (w' := wr) (S' := fun b => ¬ x.own b ∧ ¬ False) (Keeps.below_to hf fun c h1 h2 => ⟨fun h3 => by have := hxh c h3; omega, id⟩)).at i hlt.1
        have hla2 : (ad.add (i * 6)).block < wr.heap.size := hla
        have hS := tstep_calls wr (fun _ => False) x (stepAt ts i) A' c' _ hx hxo (fun _ h => h.elim) hbd hy (tabs_below HT.out hf) hm
        rw [hxt] at hS
        have HS := Lib.hid hS
        clear hS hx hxo hm hv hy hbd hla hlt
        go_wp2_with (go_at_call 35; refine HS.out.mono ?_; rintro e w4 ⟨v4, rfl, hw4⟩; have HW4 := Lib.hid hw4; clear hw4)
        go_roundw
        case rel =>
          obtain ⟨hx, hxt, hxo, hxh, hm, hv, hf⟩ := HJ.out
          obtain ⟨hb, x', hx', ht', ho', hown', hm'⟩ := HW4.out
          exact ⟨i + 1, x', by go_num, by omega, Lib.hid ⟨hx', ht'.trans hxt, ho', fun c hc => (hown' c hc).elim (hxh c) (fun h => Nat.le_trans hf.size h), hm', vec_kept hv hb hown', below_but hf hb hxh⟩⟩
        case measure => simp [intOf]; omega
      · by_cases hlt2 : i < ts.length
        · have hi1 : (i : Int) < (ts.length : Int) := by omega
          have hi2 : ¬ (i : Int) < 300 := by omega
          have hi3 : decide ((i : Int) < 300) = false := decide_eq_false hi2
          clear hlt hlt2
          have hS := tseal_calls wr (fun _ => False) x (hx.mono (by decide)) hxo (tabs_below HT.out hf) (fun _ h => h.elim)
          rw [hxt] at hS
          have HS := Lib.hid hS
          have HHX := Lib.hid hxh
          have HM := Lib.hid hm
          have HVV := Lib.hid hv
          clear hS hx hxo hm hv hxh HJ
          go_wp2_with (first
            | (go_at_call 36; refine HS.out.mono ?_; rintro e w5 ⟨x3, rfl, hb5, hx3, ht3, ho3, hm3, hw3, hown3⟩; have hb6 := below_but hf hb5 HHX.out; have HM5 := Lib.hid (list_kept HM.out hb5 (fun b h => .inl (hown3 b h))); have HV5 := Lib.hid (vec_kept HVV.out hb5 (fun b h => .inl (hown3 b h))); have hv3 := hx3.vec; rw [hm3] at hv3; have HI := Lib.hid (items_calls _ _ _ w5 _ hv3); have HX3 := Lib.hid hv3; clear hb5 hx3 ht3 ho3 hm3 hw3 hown3 hv3))
          go_wp2_with (first
            | (go_at_call 32; refine HI.out.mono ?_; rintro e w6 ⟨v6, rfl, hv6, hb7'⟩; have hb7 := below_then hb6 hb6.size hb7'; have HC := Lib.hid (sames_calls x.all x.all _ _ w6 _ _ hv6 (HM5.out.below hb7')); have HX6 := Lib.hid (HX3.out.below hb7'); have HV6 := Lib.hid (HV5.out.below hb7'); clear hv6 HI)
            | (go_at_call 19; refine HC.out.mono ?_; rintro e w7 ⟨rfl, hb8'⟩; rw [eqL_self]; have hb8 := below_then hb7 hb7.size hb8'; have HLN := Lib.hid (len_calls _ _ _ w7 _ (HX6.out.below hb8')); have HV7 := Lib.hid (HV6.out.below hb8'); clear HC)
            | (go_at_call 24; refine HLN.out.mono ?_; rintro e w8 ⟨rfl, hb9'⟩; have hb9 := below_then hb8 hb8.size hb9'; have HI2 := Lib.hid (items_calls _ _ _ w8 _ (HV7.out.below hb9')); clear HLN))
          go_wp2_with (first
            | (go_at_call 32; refine HI2.out.mono ?_; rintro e w9 ⟨v9, rfl, hv9, hb10'⟩; have hb10 := below_then hb9 hb9.size hb10'; have HC2 := Lib.hid (sames_calls l l _ _ w9 _ _ hv9 (HLS.out.below hb10)); clear hv9)
            | (go_at_call 19; refine HC2.out.mono ?_; rintro e w10 ⟨rfl, hb11'⟩; rw [eqL_self]; have hb11 := below_then hb10 hb10.size hb11')
            | (go_at_call 33; refine (speaks13_calls _ (tabs_below HT.out hb11)).mono ?_; rintro e w11 ⟨rfl, hb12'⟩; have hb12 := below_then hb11 hb11.size hb12'))
          go_ret
          exact ⟨rfl, hb12⟩
        · have hi1 : ¬ (i : Int) < (ts.length : Int) := by omega
          have hi3 : decide ((i : Int) < (ts.length : Int)) = false := decide_eq_false hi1
          clear hlt hlt2
          have hS := tseal_calls wr (fun _ => False) x (hx.mono (by decide)) hxo (tabs_below HT.out hf) (fun _ h => h.elim)
          rw [hxt] at hS
          have HS := Lib.hid hS
          have HHX := Lib.hid hxh
          have HM := Lib.hid hm
          have HVV := Lib.hid hv
          clear hS hx hxo hm hv hxh HJ
          go_wp2_with (first
            | (go_at_call 36; refine HS.out.mono ?_; rintro e w5 ⟨x3, rfl, hb5, hx3, ht3, ho3, hm3, hw3, hown3⟩; have hb6 := below_but hf hb5 HHX.out; have HM5 := Lib.hid (list_kept HM.out hb5 (fun b h => .inl (hown3 b h))); have HV5 := Lib.hid (vec_kept HVV.out hb5 (fun b h => .inl (hown3 b h))); have hv3 := hx3.vec; rw [hm3] at hv3; have HI := Lib.hid (items_calls _ _ _ w5 _ hv3); have HX3 := Lib.hid hv3; clear hb5 hx3 ht3 ho3 hm3 hw3 hown3 hv3))
          go_wp2_with (first
            | (go_at_call 32; refine HI.out.mono ?_; rintro e w6 ⟨v6, rfl, hv6, hb7'⟩; have hb7 := below_then hb6 hb6.size hb7'; have HC := Lib.hid (sames_calls x.all x.all _ _ w6 _ _ hv6 (HM5.out.below hb7')); have HX6 := Lib.hid (HX3.out.below hb7'); have HV6 := Lib.hid (HV5.out.below hb7'); clear hv6 HI)
            | (go_at_call 19; refine HC.out.mono ?_; rintro e w7 ⟨rfl, hb8'⟩; rw [eqL_self]; have hb8 := below_then hb7 hb7.size hb8'; have HLN := Lib.hid (len_calls _ _ _ w7 _ (HX6.out.below hb8')); have HV7 := Lib.hid (HV6.out.below hb8'); clear HC)
            | (go_at_call 24; refine HLN.out.mono ?_; rintro e w8 ⟨rfl, hb9'⟩; have hb9 := below_then hb8 hb8.size hb9'; have HI2 := Lib.hid (items_calls _ _ _ w8 _ (HV7.out.below hb9')); clear HLN))
          go_wp2_with (first
            | (go_at_call 32; refine HI2.out.mono ?_; rintro e w9 ⟨v9, rfl, hv9, hb10'⟩; have hb10 := below_then hb9 hb9.size hb10'; have HC2 := Lib.hid (sames_calls l l _ _ w9 _ _ hv9 (HLS.out.below hb10)); clear hv9)
            | (go_at_call 19; refine HC2.out.mono ?_; rintro e w10 ⟨rfl, hb11'⟩; rw [eqL_self]; have hb11 := below_then hb10 hb10.size hb11')
            | (go_at_call 33; refine (speaks13_calls _ (tabs_below HT.out hb11)).mono ?_; rintro e w11 ⟨rfl, hb12'⟩; have hb12 := below_then hb11 hb11.size hb12'))
          go_ret
          exact ⟨rfl, hb12⟩
  · have h1 : (listE l != 0) = true := by simpa using h0
    have h2 : (listE l == 0) = false := by simpa using h0
    have HN := Lib.hid h0
    obtain ⟨E, hE⟩ : ∃ E, listE l = E := ⟨_, rfl⟩
    rw [hE] at HOF HN h1 h2 h0
    clear hE
    go_enter Tryd.func7, Tryd.ntmps7
    go_wp2_with (first | (go_at_call 11; refine HOF.out.mono ?_; rintro e w2 ⟨p, rfl, hp, hb2⟩; obtain rfl := (hp.resolve_right (fun h => HN.out h.1)).2; clear hp) | (go_at_call 33; refine (speaks13_calls _ (tabs_below HT.out hb2)).mono ?_; rintro e w5 ⟨rfl, hb5⟩; have hb6 := below_then hb2 hb2.size hb5))
    go_ret
    exact ⟨rfl, hb6⟩
end Go.Proofs.YtaeldfnihocljaaDoor
