/- The law SplitLaws. -/
import Derived.Test.YtjjbhnkplbjfeaaDoorCSqD
import Derived.Test.YtjjbhnkplbjfeaaDoorCSqA

set_option linter.unusedVariables false
set_option linter.unusedSimpArgs false
namespace Go.Proofs.YtjjbhnkplbjfeaaDoor
open Go.RowKit
attribute [local go_sem] lt_succ_of

set_option maxRecDepth 100000 in
set_option maxHeartbeats 16000000 in
theorem splitlaws_calls (l m : List V) (at_ : Int) (A B : Option Addr) (c d : Nat) (w : World) (S S' : Nat → Prop) (hl : IsS w S l (.slice A l.length c)) (hm : IsS w S' m (.slice B m.length d)) (hT : Lib.Utf8Tabs 1 2 w) :
    Calls Tryd.prog 10 #[.agg #[.slice A l.length c, .slice B m.length d], .int .i64 at_] w fun e w' => e = .returned (.bool true) ∧ Below w.heap.size w w' := by
  obtain ⟨w1, hw1, hB1, hsz, hb0⟩ := box2 w 78 (.slice A l.length c) (.slice B m.length d)
  obtain ⟨c0, c1⟩ := block2 hb0
  have HB0 := Lib.hid hb0
  have HL := Lib.hid (hl.below hB1)
  have HM := Lib.hid (hm.below hB1)
  have HT := Lib.hid (tabs_below hT hB1)
  by_cases h0 : listE l = 0 ∧ listE m = 0
  · obtain ⟨h1, h2⟩ := h0
    have HMD := Lib.hid (made2_ok l m A B c d w1 S S' HL.out HM.out HT.out h1 h2)
    have HOL := Lib.hid h1
    have HOM := Lib.hid h2
    by_cases g1 : l.length ≤ 20000
    · have e1 : decide (20000 < (l.length : Int)) = false := decide_eq_false (by omega)
      by_cases g2 : m.length ≤ 20000
      · have e2 : decide (20000 < (m.length : Int)) = false := decide_eq_false (by omega)
        have HLN := Lib.hid (And.intro g1 g2)
        have r1 := weight_range l
        have r2 := weight_range m
        have i1 : IntKind.i64.wrap (weightV l + weightV m) = weightV l + weightV m := IntWalk.i64_in _ (by omega)
        have i2 : (weightV (l ++ m) == weightV l + weightV m) = true := by rw [weight_append]; simp
        clear r1 r2 h1 h2 g1 g2 hl hm hT hb0
        by_cases hin : 0 ≤ at_ ∧ at_ ≤ (l.length : Int)
        · obtain ⟨j, rfl⟩ : ∃ j : Nat, at_ = (j : Int) := ⟨at_.toNat, by omega⟩
          have HIN := Lib.hid hin
          have HJ := Lib.hid (show j ≤ l.length by omega)
          clear hin
          go_enter Tryd.func10, Tryd.ntmps10
          go_wp2_with (first
            | (go_at_call 51; refine HMD.out.mono ?_; rintro e w2 ⟨a, b, rfl, ha2, hb2v, hb2⟩; have Ha := Lib.hid ha2; have Hb := Lib.hid hb2v; have K := Lib.hid (blockB hb2 HB0.out); obtain ⟨c0, c1⟩ := block2 K.out; have HCU := Lib.hid ((cut_calls l _ (j : Int) w2 _ Ha.out.is HOL.out (tabs_below HT.out hb2)).mono (fun e w' hh => (hh.resolve_left (fun h => h.1 HIN.out)).2)); clear ha2 hb2v HMD)
            | (go_at_call 52; refine HCU.out.mono ?_; rintro e w3 ⟨p3, q3, rfl, hv3, hx3, hb3'⟩; have hb3 := chain_then hb2 hb3'; have Ha := Lib.hid (Ha.out.below hb3'); have Hb := Lib.hid (Hb.out.below hb3'); have Hp := Lib.hid hv3; have Hq := Lib.hid hx3; have K := Lib.hid (blockB hb3' K.out); have hq := concat_ok _ _ _ _ w3 _ _ Hp.out Hq.out.is (listE_take HOL.out _) (listE_drop HOL.out _) (by rw [List.length_take, List.length_drop]; have h1 := HLN.out.1; have h2 := HJ.out; omega) (tabs_below HT.out hb3); rw [Int.toNat_natCast, List.take_append_drop] at hq; have HCW := Lib.hid hq; clear hv3 hx3 hq HCU)
            | (go_at_call 54; refine HCW.out.mono ?_; rintro e w4 ⟨c4, rfl, hv4, hb4'⟩; have hb4 := chain_then hb3 hb4'; have Ha := Lib.hid (Ha.out.below hb4'); have Hb := Lib.hid (Hb.out.below hb4'); have K := Lib.hid (blockB hb4' K.out); obtain ⟨d0, d1⟩ := block2 K.out; have HIS := Lib.hid (is_calls l c4 _ w4 _ S hv4 (HL.out.below hb4)); clear hv4 HCW)
            | (go_at_call 45; refine HIS.out.mono ?_; rintro e w5 ⟨rfl, hb5'⟩; have hb5 := chain_then hb4 hb5'; have Ha := Lib.hid (Ha.out.below hb5'); have Hb := Lib.hid (Hb.out.below hb5'); have HC5 := Lib.hid (concat_ok (l) (m) _ _ w5 _ _ Ha.out Hb.out.is HOL.out HOM.out (by have h1 := HLN.out.1; have h2 := HLN.out.2; (try simp only [List.length_append, List.length_reverse]); omega) (tabs_below HT.out hb5)); clear HIS)
            | (go_at_call 54; refine HC5.out.mono ?_; rintro e w6 ⟨c5, rfl, hv5, hb6'⟩; have hb6 := chain_then hb5 hb6'; have Ha := Lib.hid (Ha.out.below hb6'); have Hb := Lib.hid (Hb.out.below hb6'); have Hab := Lib.hid hv5; have HC6 := Lib.hid (concat_ok (m) (l) _ _ w6 _ _ Hb.out Ha.out.is HOM.out HOL.out (by have h1 := HLN.out.1; have h2 := HLN.out.2; (try simp only [List.length_append, List.length_reverse]); omega) (tabs_below HT.out hb6)); clear hv5 HC5)
            | (go_at_call 54; refine HC6.out.mono ?_; rintro e w7 ⟨c6, rfl, hv6, hb7'⟩; have hb7 := chain_then hb6 hb7'; have Ha := Lib.hid (Ha.out.below hb7'); have Hb := Lib.hid (Hb.out.below hb7'); have Hab := Lib.hid (Hab.out.below hb7'); have Hba := Lib.hid hv6; have HC7 := Lib.hid (concat_ok (l ++ m) (l) _ _ w7 _ _ Hab.out Ha.out.is (listE_append HOL.out HOM.out (by have h1 := HLN.out.1; have h2 := HLN.out.2; omega)) HOL.out (by have h1 := HLN.out.1; have h2 := HLN.out.2; (try simp only [List.length_append, List.length_reverse]); omega) (tabs_below HT.out hb7)); clear hv6 HC6)
            | (go_at_call 54; refine HC7.out.mono ?_; rintro e w8 ⟨c7, rfl, hv7, hb8'⟩; have hb8 := chain_then hb7 hb8'; have Ha := Lib.hid (Ha.out.below hb8'); have Hb := Lib.hid (Hb.out.below hb8'); have Hab := Lib.hid (Hab.out.below hb8'); have Hba := Lib.hid (Hba.out.below hb8'); have Hle := Lib.hid hv7; have HC8 := Lib.hid (concat_ok (l) (m ++ l) _ _ w8 _ _ Ha.out Hba.out.is HOL.out (listE_append HOM.out HOL.out (by have h1 := HLN.out.1; have h2 := HLN.out.2; omega)) (by have h1 := HLN.out.1; have h2 := HLN.out.2; (try simp only [List.length_append, List.length_reverse]); omega) (tabs_below HT.out hb8)); clear hv7 HC7)
            | (go_at_call 54; refine HC8.out.mono ?_; rintro e w9 ⟨c8, rfl, hv8, hb9'⟩; have hb9 := chain_then hb8 hb9'; have Ha := Lib.hid (Ha.out.below hb9'); have Hb := Lib.hid (Hb.out.below hb9'); have Hab := Lib.hid (Hab.out.below hb9'); have Hle := Lib.hid (Hle.out.below hb9'); have Hri := Lib.hid hv8; have HC9 := Lib.hid (reverse_calls m _ w9 _ Hb.out.is HOM.out (tabs_below HT.out hb9)); clear hv8 HC8 Hba)
            | (go_at_call 48; refine HC9.out.mono ?_; rintro e w10 ⟨c9, rfl, hv9, hb10'⟩; have hb10 := chain_then hb9 hb10'; have Ha := Lib.hid (Ha.out.below hb10'); have Hb := Lib.hid (Hb.out.below hb10'); have Hab := Lib.hid (Hab.out.below hb10'); have Hle := Lib.hid (Hle.out.below hb10'); have Hri := Lib.hid (Hri.out.below hb10'); have Hrb := Lib.hid hv9; have HC10 := Lib.hid (reverse_calls l _ w10 _ Ha.out.is HOL.out (tabs_below HT.out hb10)); clear hv9 HC9)
            | (go_at_call 48; refine HC10.out.mono ?_; rintro e w11 ⟨c10, rfl, hv10, hb11'⟩; have hb11 := chain_then hb10 hb11'; have Ha := Lib.hid (Ha.out.below hb11'); have Hb := Lib.hid (Hb.out.below hb11'); have Hab := Lib.hid (Hab.out.below hb11'); have Hle := Lib.hid (Hle.out.below hb11'); have Hri := Lib.hid (Hri.out.below hb11'); have Hrb := Lib.hid (Hrb.out.below hb11'); have Hra := Lib.hid hv10; have HC11 := Lib.hid (concat_ok (m.reverse) (l.reverse) _ _ w11 _ _ Hrb.out Hra.out.is (rev_ok HOM.out) (rev_ok HOL.out) (by have h1 := HLN.out.1; have h2 := HLN.out.2; (try simp only [List.length_append, List.length_reverse]); omega) (tabs_below HT.out hb11)); clear hv10 HC10)
            | (go_at_call 54; refine HC11.out.mono ?_; rintro e w12 ⟨c11, rfl, hv11, hb12'⟩; have hb12 := chain_then hb11 hb12'; have Ha := Lib.hid (Ha.out.below hb12'); have Hb := Lib.hid (Hb.out.below hb12'); have Hab := Lib.hid (Hab.out.below hb12'); have Hle := Lib.hid (Hle.out.below hb12'); have Hri := Lib.hid (Hri.out.below hb12'); have Htu := Lib.hid hv11; have hq := dequal_calls _ _ _ _ w12 _ _ Hle.out.is Hri.out.is; rw [List.append_assoc, eqC_self] at hq; have HC12 := Lib.hid hq; clear hv11 hq HC11 Hrb Hra)
            | (go_at_call 50; refine HC12.out.mono ?_; rintro e w13 ⟨rfl, hb13'⟩; have hb13 := chain_then hb12 hb13'; have Ha := Lib.hid (Ha.out.below hb13'); have Hb := Lib.hid (Hb.out.below hb13'); have Hab := Lib.hid (Hab.out.below hb13'); have Htu := Lib.hid (Htu.out.below hb13'); have HC13 := Lib.hid (dweight_calls _ _ w13 _ Hab.out.is); clear HC12 Hle Hri)
            | (go_at_call 43; refine HC13.out.mono ?_; rintro e w14 ⟨rfl, hb14'⟩; have hb14 := chain_then hb13 hb14'; have Ha := Lib.hid (Ha.out.below hb14'); have Hb := Lib.hid (Hb.out.below hb14'); have Hab := Lib.hid (Hab.out.below hb14'); have Htu := Lib.hid (Htu.out.below hb14'); have HC14 := Lib.hid (dweight_calls _ _ w14 _ Ha.out.is); clear HC13)
            | (go_at_call 43; refine HC14.out.mono ?_; rintro e w15 ⟨rfl, hb15'⟩; have hb15 := chain_then hb14 hb15'; have Hb := Lib.hid (Hb.out.below hb15'); have Hab := Lib.hid (Hab.out.below hb15'); have Htu := Lib.hid (Htu.out.below hb15'); have HC15 := Lib.hid (dweight_calls _ _ w15 _ Hb.out.is); clear HC14 Ha)
            | (go_at_call 43; refine HC15.out.mono ?_; rintro e w16 ⟨rfl, hb16'⟩; have hb16 := chain_then hb15 hb16'; have Hab := Lib.hid (Hab.out.below hb16'); have Htu := Lib.hid (Htu.out.below hb16'); have HC16 := Lib.hid (reverse_calls (l ++ m) _ w16 _ Hab.out.is (listE_append HOL.out HOM.out (by have h1 := HLN.out.1; have h2 := HLN.out.2; omega)) (tabs_below HT.out hb16)); clear HC15 Hb)
            | (go_at_call 48; refine HC16.out.mono ?_; rintro e w17 ⟨c16, rfl, hv16, hb17'⟩; have hb17 := chain_then hb16 hb17'; have Htu := Lib.hid (Htu.out.below hb17'); have hq := dequal_calls _ _ _ _ w17 _ _ hv16.is Htu.out.is; rw [List.reverse_append, eqC_self] at hq; have HC17 := Lib.hid hq; clear hv16 hq HC16)
            | (go_at_call 50; refine HC17.out.mono ?_; rintro e w18 ⟨rfl, hb18'⟩; have hb18 := chain_then hb17 hb18'; skip; clear HC17)
            | (go_at_call 38; refine (sspeaks_calls _ (tabs_below HT.out hb18)).mono ?_; rintro e w19 ⟨rfl, hb19'⟩; have hb19 := chain_then hB1 (chain_then hb18 hb19')))
          go_ret
          exact ⟨rfl, hb19⟩
        · have HIN := Lib.hid hin
          clear hin
          go_enter Tryd.func10, Tryd.ntmps10
          go_wp2_with (first
            | (go_at_call 51; refine HMD.out.mono ?_; rintro e w2 ⟨a, b, rfl, ha2, hb2v, hb2⟩; have Ha := Lib.hid ha2; have Hb := Lib.hid hb2v; have K := Lib.hid (blockB hb2 HB0.out); obtain ⟨c0, c1⟩ := block2 K.out; have HCU := Lib.hid ((cut_calls l _ at_ w2 _ Ha.out.is HOL.out (tabs_below HT.out hb2)).mono (fun e w' hh => (hh.resolve_right (fun h => HIN.out h.1)).2)); clear ha2 hb2v HMD)
            | (go_at_call 52; refine HCU.out.mono ?_; rintro e w3 ⟨rfl, hb3'⟩; have hb3 := chain_then hb2 hb3'; have Ha := Lib.hid (Ha.out.below hb3'); have Hb := Lib.hid (Hb.out.below hb3'); have HC5 := Lib.hid (concat_ok (l) (m) _ _ w3 _ _ Ha.out Hb.out.is HOL.out HOM.out (by have h1 := HLN.out.1; have h2 := HLN.out.2; (try simp only [List.length_append, List.length_reverse]); omega) (tabs_below HT.out hb3)); clear HCU)
            | (go_at_call 54; refine HC5.out.mono ?_; rintro e w4 ⟨c5, rfl, hv5, hb4'⟩; have hb4 := chain_then hb3 hb4'; have Ha := Lib.hid (Ha.out.below hb4'); have Hb := Lib.hid (Hb.out.below hb4'); have Hab := Lib.hid hv5; have HC6 := Lib.hid (concat_ok (m) (l) _ _ w4 _ _ Hb.out Ha.out.is HOM.out HOL.out (by have h1 := HLN.out.1; have h2 := HLN.out.2; (try simp only [List.length_append, List.length_reverse]); omega) (tabs_below HT.out hb4)); clear hv5 HC5)
            | (go_at_call 54; refine HC6.out.mono ?_; rintro e w5 ⟨c6, rfl, hv6, hb5'⟩; have hb5 := chain_then hb4 hb5'; have Ha := Lib.hid (Ha.out.below hb5'); have Hb := Lib.hid (Hb.out.below hb5'); have Hab := Lib.hid (Hab.out.below hb5'); have Hba := Lib.hid hv6; have HC7 := Lib.hid (concat_ok (l ++ m) (l) _ _ w5 _ _ Hab.out Ha.out.is (listE_append HOL.out HOM.out (by have h1 := HLN.out.1; have h2 := HLN.out.2; omega)) HOL.out (by have h1 := HLN.out.1; have h2 := HLN.out.2; (try simp only [List.length_append, List.length_reverse]); omega) (tabs_below HT.out hb5)); clear hv6 HC6)
            | (go_at_call 54; refine HC7.out.mono ?_; rintro e w6 ⟨c7, rfl, hv7, hb6'⟩; have hb6 := chain_then hb5 hb6'; have Ha := Lib.hid (Ha.out.below hb6'); have Hb := Lib.hid (Hb.out.below hb6'); have Hab := Lib.hid (Hab.out.below hb6'); have Hba := Lib.hid (Hba.out.below hb6'); have Hle := Lib.hid hv7; have HC8 := Lib.hid (concat_ok (l) (m ++ l) _ _ w6 _ _ Ha.out Hba.out.is HOL.out (listE_append HOM.out HOL.out (by have h1 := HLN.out.1; have h2 := HLN.out.2; omega)) (by have h1 := HLN.out.1; have h2 := HLN.out.2; (try simp only [List.length_append, List.length_reverse]); omega) (tabs_below HT.out hb6)); clear hv7 HC7)
            | (go_at_call 54; refine HC8.out.mono ?_; rintro e w7 ⟨c8, rfl, hv8, hb7'⟩; have hb7 := chain_then hb6 hb7'; have Ha := Lib.hid (Ha.out.below hb7'); have Hb := Lib.hid (Hb.out.below hb7'); have Hab := Lib.hid (Hab.out.below hb7'); have Hle := Lib.hid (Hle.out.below hb7'); have Hri := Lib.hid hv8; have HC9 := Lib.hid (reverse_calls m _ w7 _ Hb.out.is HOM.out (tabs_below HT.out hb7)); clear hv8 HC8 Hba)
            | (go_at_call 48; refine HC9.out.mono ?_; rintro e w8 ⟨c9, rfl, hv9, hb8'⟩; have hb8 := chain_then hb7 hb8'; have Ha := Lib.hid (Ha.out.below hb8'); have Hb := Lib.hid (Hb.out.below hb8'); have Hab := Lib.hid (Hab.out.below hb8'); have Hle := Lib.hid (Hle.out.below hb8'); have Hri := Lib.hid (Hri.out.below hb8'); have Hrb := Lib.hid hv9; have HC10 := Lib.hid (reverse_calls l _ w8 _ Ha.out.is HOL.out (tabs_below HT.out hb8)); clear hv9 HC9)
            | (go_at_call 48; refine HC10.out.mono ?_; rintro e w9 ⟨c10, rfl, hv10, hb9'⟩; have hb9 := chain_then hb8 hb9'; have Ha := Lib.hid (Ha.out.below hb9'); have Hb := Lib.hid (Hb.out.below hb9'); have Hab := Lib.hid (Hab.out.below hb9'); have Hle := Lib.hid (Hle.out.below hb9'); have Hri := Lib.hid (Hri.out.below hb9'); have Hrb := Lib.hid (Hrb.out.below hb9'); have Hra := Lib.hid hv10; have HC11 := Lib.hid (concat_ok (m.reverse) (l.reverse) _ _ w9 _ _ Hrb.out Hra.out.is (rev_ok HOM.out) (rev_ok HOL.out) (by have h1 := HLN.out.1; have h2 := HLN.out.2; (try simp only [List.length_append, List.length_reverse]); omega) (tabs_below HT.out hb9)); clear hv10 HC10)
            | (go_at_call 54; refine HC11.out.mono ?_; rintro e w10 ⟨c11, rfl, hv11, hb10'⟩; have hb10 := chain_then hb9 hb10'; have Ha := Lib.hid (Ha.out.below hb10'); have Hb := Lib.hid (Hb.out.below hb10'); have Hab := Lib.hid (Hab.out.below hb10'); have Hle := Lib.hid (Hle.out.below hb10'); have Hri := Lib.hid (Hri.out.below hb10'); have Htu := Lib.hid hv11; have hq := dequal_calls _ _ _ _ w10 _ _ Hle.out.is Hri.out.is; rw [List.append_assoc, eqC_self] at hq; have HC12 := Lib.hid hq; clear hv11 hq HC11 Hrb Hra)
            | (go_at_call 50; refine HC12.out.mono ?_; rintro e w11 ⟨rfl, hb11'⟩; have hb11 := chain_then hb10 hb11'; have Ha := Lib.hid (Ha.out.below hb11'); have Hb := Lib.hid (Hb.out.below hb11'); have Hab := Lib.hid (Hab.out.below hb11'); have Htu := Lib.hid (Htu.out.below hb11'); have HC13 := Lib.hid (dweight_calls _ _ w11 _ Hab.out.is); clear HC12 Hle Hri)
            | (go_at_call 43; refine HC13.out.mono ?_; rintro e w12 ⟨rfl, hb12'⟩; have hb12 := chain_then hb11 hb12'; have Ha := Lib.hid (Ha.out.below hb12'); have Hb := Lib.hid (Hb.out.below hb12'); have Hab := Lib.hid (Hab.out.below hb12'); have Htu := Lib.hid (Htu.out.below hb12'); have HC14 := Lib.hid (dweight_calls _ _ w12 _ Ha.out.is); clear HC13)
            | (go_at_call 43; refine HC14.out.mono ?_; rintro e w13 ⟨rfl, hb13'⟩; have hb13 := chain_then hb12 hb13'; have Hb := Lib.hid (Hb.out.below hb13'); have Hab := Lib.hid (Hab.out.below hb13'); have Htu := Lib.hid (Htu.out.below hb13'); have HC15 := Lib.hid (dweight_calls _ _ w13 _ Hb.out.is); clear HC14 Ha)
            | (go_at_call 43; refine HC15.out.mono ?_; rintro e w14 ⟨rfl, hb14'⟩; have hb14 := chain_then hb13 hb14'; have Hab := Lib.hid (Hab.out.below hb14'); have Htu := Lib.hid (Htu.out.below hb14'); have HC16 := Lib.hid (reverse_calls (l ++ m) _ w14 _ Hab.out.is (listE_append HOL.out HOM.out (by have h1 := HLN.out.1; have h2 := HLN.out.2; omega)) (tabs_below HT.out hb14)); clear HC15 Hb)
            | (go_at_call 48; refine HC16.out.mono ?_; rintro e w15 ⟨c16, rfl, hv16, hb15'⟩; have hb15 := chain_then hb14 hb15'; have Htu := Lib.hid (Htu.out.below hb15'); have hq := dequal_calls _ _ _ _ w15 _ _ hv16.is Htu.out.is; rw [List.reverse_append, eqC_self] at hq; have HC17 := Lib.hid hq; clear hv16 hq HC16)
            | (go_at_call 50; refine HC17.out.mono ?_; rintro e w16 ⟨rfl, hb16'⟩; have hb16 := chain_then hb15 hb16'; skip; clear HC17)
            | (go_at_call 38; refine (sspeaks_calls _ (tabs_below HT.out hb16)).mono ?_; rintro e w17 ⟨rfl, hb17'⟩; have hb17 := chain_then hB1 (chain_then hb16 hb17')))
          go_ret
          exact ⟨rfl, hb17⟩
      · have e2 : decide (20000 < (m.length : Int)) = true := decide_eq_true (by omega)
        clear h1 h2 g1 g2 hl hm hT hb0
        go_enter Tryd.func10, Tryd.ntmps10
        go_wp2_with (first
          | (go_at_call 51; refine HMD.out.mono ?_; rintro e w2 ⟨a, b, rfl, ha2, hb2v, hb2⟩; have K := Lib.hid (blockB hb2 HB0.out); obtain ⟨c0, c1⟩ := block2 K.out; clear ha2 hb2v HMD)
          | (go_at_call 38; refine (sspeaks_calls _ (tabs_below HT.out hb2)).mono ?_; rintro e w3 ⟨rfl, hb3'⟩; have hb3 := chain_then hB1 (chain_then hb2 hb3')))
        go_ret
        exact ⟨rfl, hb3⟩
    · have e1 : decide (20000 < (l.length : Int)) = true := decide_eq_true (by omega)
      clear h1 h2 g1 hl hm hT hb0
      go_enter Tryd.func10, Tryd.ntmps10
      go_wp2_with (first
        | (go_at_call 51; refine HMD.out.mono ?_; rintro e w2 ⟨a, b, rfl, ha2, hb2v, hb2⟩; have K := Lib.hid (blockB hb2 HB0.out); obtain ⟨c0, c1⟩ := block2 K.out; clear ha2 hb2v HMD)
        | (go_at_call 38; refine (sspeaks_calls _ (tabs_below HT.out hb2)).mono ?_; rintro e w3 ⟨rfl, hb3'⟩; have hb3 := chain_then hB1 (chain_then hb2 hb3')))
      go_ret
      exact ⟨rfl, hb3⟩
  · have HMD := Lib.hid (made2_bad l m A B c d w1 S S' HL.out HM.out HT.out h0)
    clear h0 hl hm hT hb0
    go_enter Tryd.func10, Tryd.ntmps10
    go_wp2_with (first
      | (go_at_call 51; refine HMD.out.mono ?_; rintro e w2 ⟨p, q, rfl, hb2⟩)
      | (go_at_call 38; refine (sspeaks_calls _ (tabs_below HT.out hb2)).mono ?_; rintro e w3 ⟨rfl, hb3'⟩; have hb3 := chain_then hB1 (chain_then hb2 hb3')))
    go_ret
    exact ⟨rfl, hb3⟩
end Go.Proofs.YtjjbhnkplbjfeaaDoor
