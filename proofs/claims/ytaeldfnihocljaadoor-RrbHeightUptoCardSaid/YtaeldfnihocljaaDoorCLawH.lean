/- The law RrbHeight. -/
import Derived.Test.YtaeldfnihocljaaDoorCRefA
import Derived.Test.YtaeldfnihocljaaDoorCBase
import Derived.Test.YtaeldfnihocljaaDoorCRrbO

set_option linter.unusedVariables false
set_option linter.unusedSimpArgs false
namespace Go.Proofs.YtaeldfnihocljaaDoor
open Go.RowKit
attribute [local go_sem] lt_succ_of

set_option maxRecDepth 100000 in
set_option maxHeartbeats 8000000 in
theorem rrbheight_calls (l : List V) (ts : List St) (vl : Value) (A : Option Addr) (cA : Nat) (w : World) (S : Nat → Prop) (hl : IsS w S l vl) (hts : IsT w S ts (.slice A ts.length cA)) (hT : Lib.Utf8Tabs 0 1 w) :
    Calls Tryd.prog 4 #[vl, .slice A ts.length cA] w fun e w' => e = .returned (.bool true) ∧ Below w.heap.size w w' := by
  have HOF := Lib.hid (of_calls l vl w S hl hT)
  have HTS := Lib.hid hts
  have HT := Lib.hid hT
  have htl : ts.length ≤ 4294967296 := by obtain ⟨_, _, _, _, h, _⟩ := hts; exact h
  clear hl hT hts
  by_cases h0 : listE l = 0
  · rw [h0] at HOF
    clear h0
    go_enter Tryd.func4, Tryd.ntmps4
    go_wp2_with (first | (go_at_call 11; refine HOF.out.mono ?_; rintro e w2 ⟨p, rfl, hp, hb2⟩; obtain ⟨h, b, rfl, hv⟩ := (hp.resolve_left (fun h => h.1 rfl)).2; have HV := Lib.hid (hv.keep (Keeps.weak (S' := fun _ => True) fun _ _ => trivial)); clear hp hv))
    go_loopw [5, 7] (fun vv vi wr => ∃ (i : Nat) (m : List V) (h b : Nat), vi = .int .i64 i ∧ i ≤ ts.length ∧ vv = .pointer (some ⟨b, 0, none⟩) ∧ Hid (IsR wr (fun _ => True) m h b) ∧ Below w.heap.size w wr) (fun _ v _ => ts.length - (intOf v).toNat)
    case atStart => exact ⟨0, l, h, b, rfl, by omega, rfl, HV, hb2⟩
    case round =>
      obtain ⟨i, m, h, b, rfl, hi, rfl, HR, hf⟩ := hrel
      by_cases hlt : i < ts.length
      · by_cases h200 : i < 200
        · have hi1 : (i : Int) < (ts.length : Int) := by omega
          have hi2 : (i : Int) < 200 := by omega
          obtain ⟨ad, A', c', rfl, hla, hbd, g0, g1, g2, g3, g4, g5, hx⟩ := (HTS.out.below hf).at i hlt
          have hla2 : (ad.add (i * 6)).block < wr.heap.size := hla
          by_cases hk1 : (stepAt ts i).kind = 1
          · have e1 : ((stepAt ts i).kind == 1) = true := by simpa using hk1
            have HP := vpush_calls m h b (stepAt ts i).val _ wr _ HR.out (hx.keep (Keeps.weak fun _ _ => trivial)) (tabs_below HT.out hf)
            have hfs := hf.size
            clear hx hbd hk1
            by_cases hpe : pushE m (stepAt ts i).val = 0
            · rw [hpe] at HP
              have HP := Lib.hid HP
              clear hpe
              go_wp2_with (first | (go_at_call 20; refine HP.out.mono ?_; rintro e w3 ⟨p, rfl, hp, hb3⟩; obtain ⟨h', b', rfl, hv3⟩ := (hp.resolve_left (fun h => h.1 rfl)).2; obtain ⟨m', hv3⟩ : ∃ m', IsR w3 _ m' h' b' := ⟨_, hv3⟩; have HV3 := Lib.hid (hv3.keep (Keeps.weak (S' := fun _ => True) fun _ _ => trivial)); have hb4 := below_then hf hf.size hb3; clear hp hv3))
              obtain ⟨hh1, hh2⟩ := HV3.out.flat_enough
              have hml := HV3.out.2.2.1
              have HIG := Lib.hid (fun W => high_calls (m').length W hml)
              have f1 : ¬ (highN (m').length : Int) < (h' : Int) := by omega
              have f0 : ¬ (h' : Int) < 0 := by omega
              have f2 : (((h' : Nat) : Int) == 0) = (((m').length : Int) == 0) := by
                rw [Bool.eq_iff_iff]
                simp only [beq_iff_eq]
                omega
              clear hml hh1 hh2
              go_wp2_with (first | (go_at_call 22; refine (height_calls (m') h' b' _ _ HV3.out).mono ?_; rintro e wa ⟨rfl, hba⟩; have HVa := Lib.hid (HV3.out.below hba); have hbA := below_then hb4 hb4.size hba))
              refine (len_calls (m') h' b' _ _ HVa.out).mono ?_
              rintro e wb ⟨rfl, hbb⟩
              have HVb := Lib.hid (HVa.out.below hbb)
              have hbB := below_then hbA hbA.size hbb
              go_wp2_with (first | (go_at_call 23; refine (HIG.out _).mono ?_; rintro e wc ⟨rfl, hbc⟩; have HVc := Lib.hid (HVb.out.below hbc); have hbC := below_then hbB hbB.size hbc))
              refine (len_calls (m') h' b' _ _ HVc.out).mono ?_
              rintro e wd ⟨rfl, hbd'⟩
              have HVd := Lib.hid (HVc.out.below hbd')
              have hbD := below_then hbC hbC.size hbd'
              go_wp2_with fail
              go_roundw
              case rel => exact ⟨i + 1, m', h', b', by go_num, by omega, rfl, HVd, hbD⟩
              case measure => simp [intOf]; omega
            · have e3 : (pushE m (stepAt ts i).val == 0) = false := by simpa using hpe
              have e4 : (pushE m (stepAt ts i).val != 0) = true := by simpa using hpe
              obtain ⟨E, hE⟩ : ∃ E, pushE m (stepAt ts i).val = E := ⟨_, rfl⟩
              rw [hE] at HP e3 e4 hpe
              have HP := Lib.hid HP
              have HPE := Lib.hid hpe
              clear hpe hE
              go_wp2_with (first | (go_at_call 20; refine HP.out.mono ?_; rintro e w3 ⟨p, rfl, hp, hb3⟩; obtain rfl := (hp.resolve_right (fun h => HPE.out h.1)).2; have HV3 := Lib.hid (HR.out.below hb3); have hb4 := below_then hf hf.size hb3; clear hp))
              obtain ⟨hh1, hh2⟩ := HV3.out.flat_enough
              have hml := HV3.out.2.2.1
              have HIG := Lib.hid (fun W => high_calls (m).length W hml)
              have f1 : ¬ (highN (m).length : Int) < (h : Int) := by omega
              have f0 : ¬ (h : Int) < 0 := by omega
              have f2 : (((h : Nat) : Int) == 0) = (((m).length : Int) == 0) := by
                rw [Bool.eq_iff_iff]
                simp only [beq_iff_eq]
                omega
              clear hml hh1 hh2
              go_wp2_with (first | (go_at_call 22; refine (height_calls (m) h b _ _ HV3.out).mono ?_; rintro e wa ⟨rfl, hba⟩; have HVa := Lib.hid (HV3.out.below hba); have hbA := below_then hb4 hb4.size hba))
              refine (len_calls (m) h b _ _ HVa.out).mono ?_
              rintro e wb ⟨rfl, hbb⟩
              have HVb := Lib.hid (HVa.out.below hbb)
              have hbB := below_then hbA hbA.size hbb
              go_wp2_with (first | (go_at_call 23; refine (HIG.out _).mono ?_; rintro e wc ⟨rfl, hbc⟩; have HVc := Lib.hid (HVb.out.below hbc); have hbC := below_then hbB hbB.size hbc))
              refine (len_calls (m) h b _ _ HVc.out).mono ?_
              rintro e wd ⟨rfl, hbd'⟩
              have HVd := Lib.hid (HVc.out.below hbd')
              have hbD := below_then hbC hbC.size hbd'
              go_wp2_with fail
              go_roundw
              case rel => exact ⟨i + 1, m, h, b, by go_num, by omega, rfl, HVd, hbD⟩
              case measure => simp [intOf]; omega
          · have e1 : ((stepAt ts i).kind == 1) = false := by simpa using hk1
            clear hx hbd
            by_cases hk2 : (stepAt ts i).kind = 2
            · have e2 : ((stepAt ts i).kind == 2) = true := by simpa using hk2
              have HP := vpop_calls m h b wr _ HR.out
              have hfs := hf.size
              clear hk1 hk2
              by_cases hml0 : m = []
              · have hpe : popE m = 6 := by unfold popE; rw [if_pos (by rw [hml0]; rfl)]
                rw [hpe] at HP
                have HP := Lib.hid HP
                have HM0 := Lib.hid hml0
                clear hml0 hpe
                go_wp2_with (first | (go_at_call 21; refine HP.out.mono ?_; rintro e w3 ⟨p, vx, rfl, hvx, hp, hb3⟩; obtain rfl := (hp.resolve_right (fun h => h.1 HM0.out)).2; obtain ⟨_, Ax, cx, rfl, _, _⟩ := hvx.eq; have HV3 := Lib.hid (HR.out.below hb3); have hb4 := below_then hf hf.size hb3; clear hp hvx))
                obtain ⟨hh1, hh2⟩ := HV3.out.flat_enough
                have hml := HV3.out.2.2.1
                have HIG := Lib.hid (fun W => high_calls (m).length W hml)
                have f1 : ¬ (highN (m).length : Int) < (h : Int) := by omega
                have f0 : ¬ (h : Int) < 0 := by omega
                have f2 : (((h : Nat) : Int) == 0) = (((m).length : Int) == 0) := by
                  rw [Bool.eq_iff_iff]
                  simp only [beq_iff_eq]
                  omega
                clear hml hh1 hh2
                go_wp2_with (first | (go_at_call 22; refine (height_calls (m) h b _ _ HV3.out).mono ?_; rintro e wa ⟨rfl, hba⟩; have HVa := Lib.hid (HV3.out.below hba); have hbA := below_then hb4 hb4.size hba))
                refine (len_calls (m) h b _ _ HVa.out).mono ?_
                rintro e wb ⟨rfl, hbb⟩
                have HVb := Lib.hid (HVa.out.below hbb)
                have hbB := below_then hbA hbA.size hbb
                go_wp2_with (first | (go_at_call 23; refine (HIG.out _).mono ?_; rintro e wc ⟨rfl, hbc⟩; have HVc := Lib.hid (HVb.out.below hbc); have hbC := below_then hbB hbB.size hbc))
                refine (len_calls (m) h b _ _ HVc.out).mono ?_
                rintro e wd ⟨rfl, hbd'⟩
                have HVd := Lib.hid (HVc.out.below hbd')
                have hbD := below_then hbC hbC.size hbd'
                go_wp2_with fail
                go_roundw
                case rel => exact ⟨i + 1, m, h, b, by go_num, by omega, rfl, HVd, hbD⟩
                case measure => simp [intOf]; omega
              · have hpe : popE m = 0 := by unfold popE; rw [if_neg (fun e => hml0 (List.eq_nil_of_length_eq_zero e))]
                rw [hpe] at HP
                have HP := Lib.hid HP
                have HM0 := Lib.hid hml0
                clear hml0 hpe
                go_wp2_with (first | (go_at_call 21; refine HP.out.mono ?_; rintro e w3 ⟨p, vx, rfl, hvx, hp, hb3⟩; obtain ⟨h', b', rfl, hv3⟩ := (hp.resolve_left (fun h => HM0.out h.1)).2; obtain ⟨m', hv3⟩ : ∃ m', IsR w3 _ m' h' b' := ⟨_, hv3⟩; obtain ⟨_, Ax, cx, rfl, _, _⟩ := hvx.eq; have HV3 := Lib.hid (hv3.keep (Keeps.weak (S' := fun _ => True) fun _ _ => trivial)); have hb4 := below_then hf hf.size hb3; clear hp hvx hv3))
                obtain ⟨hh1, hh2⟩ := HV3.out.flat_enough
                have hml := HV3.out.2.2.1
                have HIG := Lib.hid (fun W => high_calls (m').length W hml)
                have f1 : ¬ (highN (m').length : Int) < (h' : Int) := by omega
                have f0 : ¬ (h' : Int) < 0 := by omega
                have f2 : (((h' : Nat) : Int) == 0) = (((m').length : Int) == 0) := by
                  rw [Bool.eq_iff_iff]
                  simp only [beq_iff_eq]
                  omega
                clear hml hh1 hh2
                go_wp2_with (first | (go_at_call 22; refine (height_calls (m') h' b' _ _ HV3.out).mono ?_; rintro e wa ⟨rfl, hba⟩; have HVa := Lib.hid (HV3.out.below hba); have hbA := below_then hb4 hb4.size hba))
                refine (len_calls (m') h' b' _ _ HVa.out).mono ?_
                rintro e wb ⟨rfl, hbb⟩
                have HVb := Lib.hid (HVa.out.below hbb)
                have hbB := below_then hbA hbA.size hbb
                go_wp2_with (first | (go_at_call 23; refine (HIG.out _).mono ?_; rintro e wc ⟨rfl, hbc⟩; have HVc := Lib.hid (HVb.out.below hbc); have hbC := below_then hbB hbB.size hbc))
                refine (len_calls (m') h' b' _ _ HVc.out).mono ?_
                rintro e wd ⟨rfl, hbd'⟩
                have HVd := Lib.hid (HVc.out.below hbd')
                have hbD := below_then hbC hbC.size hbd'
                go_wp2_with fail
                go_roundw
                case rel => exact ⟨i + 1, m', h', b', by go_num, by omega, rfl, HVd, hbD⟩
                case measure => simp [intOf]; omega
            · have e2 : ((stepAt ts i).kind == 2) = false := by simpa using hk2
              clear hk1 hk2
              obtain ⟨hh1, hh2⟩ := HR.out.flat_enough
              have hml := HR.out.2.2.1
              have HIG := Lib.hid (fun W => high_calls (m).length W hml)
              have f1 : ¬ (highN (m).length : Int) < (h : Int) := by omega
              have f0 : ¬ (h : Int) < 0 := by omega
              have f2 : (((h : Nat) : Int) == 0) = (((m).length : Int) == 0) := by
                rw [Bool.eq_iff_iff]
                simp only [beq_iff_eq]
                omega
              clear hml hh1 hh2
              go_wp2_with (first | (go_at_call 22; refine (height_calls (m) h b _ _ HR.out).mono ?_; rintro e wa ⟨rfl, hba⟩; have HVa := Lib.hid (HR.out.below hba); have hbA := below_then hf hf.size hba))
              refine (len_calls (m) h b _ _ HVa.out).mono ?_
              rintro e wb ⟨rfl, hbb⟩
              have HVb := Lib.hid (HVa.out.below hbb)
              have hbB := below_then hbA hbA.size hbb
              go_wp2_with (first | (go_at_call 23; refine (HIG.out _).mono ?_; rintro e wc ⟨rfl, hbc⟩; have HVc := Lib.hid (HVb.out.below hbc); have hbC := below_then hbB hbB.size hbc))
              refine (len_calls (m) h b _ _ HVc.out).mono ?_
              rintro e wd ⟨rfl, hbd'⟩
              have HVd := Lib.hid (HVc.out.below hbd')
              have hbD := below_then hbC hbC.size hbd'
              go_wp2_with fail
              go_roundw
              case rel => exact ⟨i + 1, m, h, b, by go_num, by omega, rfl, HVd, hbD⟩
              case measure => simp [intOf]; omega
        · have hi1 : (i : Int) < (ts.length : Int) := by omega
          have hi2 : ¬ (i : Int) < 200 := by omega
          have hi3 : decide ((i : Int) < 200) = false := decide_eq_false hi2
          obtain ⟨hh1, hh2⟩ := HR.out.flat_enough
          have hml := HR.out.2.2.1
          have HIG := Lib.hid (fun W => high_calls (m).length W hml)
          have f1 : ¬ (highN (m).length : Int) < (h : Int) := by omega
          have f0 : ¬ (h : Int) < 0 := by omega
          have f2 : (((h : Nat) : Int) == 0) = (((m).length : Int) == 0) := by
            rw [Bool.eq_iff_iff]
            simp only [beq_iff_eq]
            omega
          clear hml hh1 hh2
          go_wp2_with (first | (go_at_call 22; refine (height_calls (m) h b _ _ HR.out).mono ?_; rintro e wa ⟨rfl, hba⟩; have HVa := Lib.hid (HR.out.below hba); have hbA := below_then hf hf.size hba))
          refine (len_calls (m) h b _ _ HVa.out).mono ?_
          rintro e wb ⟨rfl, hbb⟩
          have HVb := Lib.hid (HVa.out.below hbb)
          have hbB := below_then hbA hbA.size hbb
          go_wp2_with (first | (go_at_call 23; refine (HIG.out _).mono ?_; rintro e wc ⟨rfl, hbc⟩; have HVc := Lib.hid (HVb.out.below hbc); have hbC := below_then hbB hbB.size hbc))
          go_wp2_with (first | (go_at_call 13; refine (speaks_calls _ (tabs_below HT.out hbC)).mono ?_; rintro e w5 ⟨rfl, hb5⟩; have hb6 := below_then hbC hbC.size hb5))
          go_ret
          exact ⟨rfl, hb6⟩
      · have hi1 : ¬ (i : Int) < (ts.length : Int) := by omega
        have hi3 : decide ((i : Int) < (ts.length : Int)) = false := decide_eq_false hi1
        obtain ⟨hh1, hh2⟩ := HR.out.flat_enough
        have hml := HR.out.2.2.1
        have HIG := Lib.hid (fun W => high_calls (m).length W hml)
        have f1 : ¬ (highN (m).length : Int) < (h : Int) := by omega
        have f0 : ¬ (h : Int) < 0 := by omega
        have f2 : (((h : Nat) : Int) == 0) = (((m).length : Int) == 0) := by
          rw [Bool.eq_iff_iff]
          simp only [beq_iff_eq]
          omega
        clear hml hh1 hh2
        go_wp2_with (first | (go_at_call 22; refine (height_calls (m) h b _ _ HR.out).mono ?_; rintro e wa ⟨rfl, hba⟩; have HVa := Lib.hid (HR.out.below hba); have hbA := below_then hf hf.size hba))
        refine (len_calls (m) h b _ _ HVa.out).mono ?_
        rintro e wb ⟨rfl, hbb⟩
        have HVb := Lib.hid (HVa.out.below hbb)
        have hbB := below_then hbA hbA.size hbb
        go_wp2_with (first | (go_at_call 23; refine (HIG.out _).mono ?_; rintro e wc ⟨rfl, hbc⟩; have HVc := Lib.hid (HVb.out.below hbc); have hbC := below_then hbB hbB.size hbc))
        go_wp2_with (first | (go_at_call 13; refine (speaks_calls _ (tabs_below HT.out hbC)).mono ?_; rintro e w5 ⟨rfl, hb5⟩; have hb6 := below_then hbC hbC.size hb5))
        go_ret
        exact ⟨rfl, hb6⟩
  · have h1 : (listE l != 0) = true := by simpa using h0
    have h2 : (listE l == 0) = false := by simpa using h0
    have HN := Lib.hid h0
    obtain ⟨E, hE⟩ : ∃ E, listE l = E := ⟨_, rfl⟩
    rw [hE] at HOF HN h1 h2 h0
    clear hE
    go_enter Tryd.func4, Tryd.ntmps4
    go_wp2_with (first | (go_at_call 11; refine HOF.out.mono ?_; rintro e w2 ⟨p, rfl, hp, hb2⟩; obtain rfl := (hp.resolve_right (fun h => HN.out h.1)).2; clear hp) | (go_at_call 13; refine (speaks_calls _ (tabs_below HT.out hb2)).mono ?_; rintro e w5 ⟨rfl, hb5⟩; have hb6 := below_then hb2 hb2.size hb5))
    go_ret
    exact ⟨rfl, hb6⟩
end Go.Proofs.YtaeldfnihocljaaDoor
