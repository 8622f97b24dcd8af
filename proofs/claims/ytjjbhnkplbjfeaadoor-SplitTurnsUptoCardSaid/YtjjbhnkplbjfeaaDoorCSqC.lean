/- The law SplitTurns. -/
import Derived.Test.YtjjbhnkplbjfeaaDoorCSqA
import Derived.Test.YtjjbhnkplbjfeaaDoorCSpS
import Derived.Test.YtjjbhnkplbjfeaaDoorCSpO

set_option linter.unusedVariables false
set_option linter.unusedSimpArgs false
namespace Go.Proofs.YtjjbhnkplbjfeaaDoor
open Go.RowKit
attribute [local go_sem] lt_succ_of

set_option maxRecDepth 100000 in
set_option maxHeartbeats 4000000 in
theorem splitturns_calls (l : List V) (k : Int) (A : Option Addr) (cA : Nat) (w : World) (S : Nat → Prop) (hl : IsS w S l (.slice A l.length cA)) (hT : Lib.Utf8Tabs 1 2 w) (hk0 : -9223372036854775808 ≤ k) (hk1 : k ≤ 9223372036854775807) :
    Calls Tryd.prog 8 #[.slice A l.length cA, .int .i64 k] w fun e w' => e = .returned (.bool true) ∧ Below w.heap.size w w' := by
  have HOF := Lib.hid (dof_calls l _ w S hl hT)
  have HL := Lib.hid hl
  have HT := Lib.hid hT
  have HK0 := Lib.hid hk0
  have HK1 := Lib.hid hk1
  by_cases h0 : listE l = 0
  · have HE := Lib.hid h0
    have H65 := Lib.hid (listE_len h0)
    rw [h0] at HOF
    have HRO := Lib.hid (rotV_ok (k := k) h0)
    have HRL := Lib.hid (rotV_length l k)
    have HBK := Lib.hid (rot_back l k)
    by_cases hm : -1000000 < k
    · have d1 : decide (-1000000 < k) = true := decide_eq_true hm
      have i1 : IntKind.i64.wrap (0 - k) = -k := by rw [Int.zero_sub]; exact IntWalk.i64_in _ (by omega)
      have i2 : IntKind.i64.wrap (-k) = -k := IntWalk.i64_in _ (by omega)
      have HK2 := Lib.hid (show -9223372036854775808 ≤ -k ∧ -k ≤ 9223372036854775807 by omega)
      clear hm h0 hl hT hk0 hk1
      go_enter Tryd.func8, Tryd.ntmps8
      go_wp2_with (first
        | (go_at_call 13; refine HOF.out.mono ?_; rintro e w2 ⟨p, rfl, hp, hb2⟩; obtain ⟨b, rfl, hv⟩ := (hp.resolve_left (fun h => h.1 rfl)).2; have HV := Lib.hid hv.all; have HR1 := Lib.hid (rotate_calls l _ k w2 _ hv.all.is HE.out (tabs_below HT.out hb2) HK0.out HK1.out); clear hp hv)
        | (go_at_call 46; refine HR1.out.mono ?_; rintro e w3 ⟨b3, rfl, hd3, hb3'⟩; have HD3 := Lib.hid hd3; have hb3 := chain_then hb2 hb3'; clear hd3 HR1)
        | (go_at_call 47; refine (refrotate_calls l _ k w3 S (HL.out.below hb3) H65.out HK0.out HK1.out).mono ?_; rintro e w4 ⟨v4, rfl, hv4, hb4'⟩; have hb4 := chain_then hb3 hb4'; have HI1 := Lib.hid (is_calls _ b3 _ w4 _ _ (HD3.out.below hb4') hv4); clear hv4)
        | (go_at_call 45; refine HI1.out.mono ?_; rintro e w5 ⟨rfl, hb5'⟩; have hb5 := chain_then hb4 hb5'; clear HI1)
        | (go_at_call 48; refine (reverse_calls l _ w5 _ (HV.out.below (chain_then hb3' (chain_then hb4' hb5'))).is HE.out (tabs_below HT.out hb5)).mono ?_; rintro e w6 ⟨b6, rfl, hd6, hb6'⟩; have HD6 := Lib.hid hd6; have hb6 := chain_then hb5 hb6'; clear hd6)
        | (go_at_call 49; refine (refreverse_calls l _ w6 S (HL.out.below hb6) H65.out).mono ?_; rintro e w7 ⟨v7, rfl, hv7, hb7'⟩; have hb7 := chain_then hb6 hb7'; have HI2 := Lib.hid (is_calls _ b6 _ w7 _ _ (HD6.out.below hb7') hv7); clear hv7)
        | (go_at_call 45; refine HI2.out.mono ?_; rintro e w8 ⟨rfl, hb8'⟩; have hb8 := chain_then hb7 hb8'; have HR2 := Lib.hid (rotate_calls (rotV l k) _ (-k) w8 _ (HD3.out.below (chain_then hb4' (chain_then hb5' (chain_then hb6' (chain_then hb7' hb8'))))).is HRO.out (tabs_below HT.out hb8) HK2.out.1 HK2.out.2); clear HI2)
        | (go_at_call 46; refine HR2.out.mono ?_; rintro e w9 ⟨b9, rfl, hd9, hb9'⟩; have hb9 := chain_then hb8 hb9'; have HEQ := dequal_calls _ _ _ _ w9 _ _ hd9.is (HV.out.below (chain_then hb3' (chain_then hb4' (chain_then hb5' (chain_then hb6' (chain_then hb7' (chain_then hb8' hb9'))))))).is; rw [HBK.out, eqC_self] at HEQ; have HEQ := Lib.hid HEQ; clear hd9 HR2)
        | (go_at_call 50; refine HEQ.out.mono ?_; rintro e wA ⟨rfl, hbA'⟩; have hbA := chain_then hb9 hbA'; have HI3 := Lib.hid (is_calls l b _ wA _ S (HV.out.below (chain_then hb3' (chain_then hb4' (chain_then hb5' (chain_then hb6' (chain_then hb7' (chain_then hb8' (chain_then hb9' hbA')))))))) (HL.out.below hbA)))
        | (go_at_call 45; refine HI3.out.mono ?_; rintro e wB ⟨rfl, hbB'⟩; have hbB := chain_then hbA hbB'; clear HI3)
        | (go_at_call 38; refine (sspeaks_calls _ (tabs_below HT.out hbB)).mono ?_; rintro e wC ⟨rfl, hbC'⟩; have hbC := chain_then hbB hbC'))
      go_ret
      exact ⟨rfl, hbC⟩
    · have d1 : decide (-1000000 < k) = false := decide_eq_false hm
      clear hm h0 hl hT hk0 hk1
      go_enter Tryd.func8, Tryd.ntmps8
      go_wp2_with (first
        | (go_at_call 13; refine HOF.out.mono ?_; rintro e w2 ⟨p, rfl, hp, hb2⟩; obtain ⟨b, rfl, hv⟩ := (hp.resolve_left (fun h => h.1 rfl)).2; have HV := Lib.hid hv.all; have HR1 := Lib.hid (rotate_calls l _ k w2 _ hv.all.is HE.out (tabs_below HT.out hb2) HK0.out HK1.out); clear hp hv)
        | (go_at_call 46; refine HR1.out.mono ?_; rintro e w3 ⟨b3, rfl, hd3, hb3'⟩; have HD3 := Lib.hid hd3; have hb3 := chain_then hb2 hb3'; clear hd3 HR1)
        | (go_at_call 47; refine (refrotate_calls l _ k w3 S (HL.out.below hb3) H65.out HK0.out HK1.out).mono ?_; rintro e w4 ⟨v4, rfl, hv4, hb4'⟩; have hb4 := chain_then hb3 hb4'; have HI1 := Lib.hid (is_calls _ b3 _ w4 _ _ (HD3.out.below hb4') hv4); clear hv4)
        | (go_at_call 45; refine HI1.out.mono ?_; rintro e w5 ⟨rfl, hb5'⟩; have hb5 := chain_then hb4 hb5'; clear HI1)
        | (go_at_call 48; refine (reverse_calls l _ w5 _ (HV.out.below (chain_then hb3' (chain_then hb4' hb5'))).is HE.out (tabs_below HT.out hb5)).mono ?_; rintro e w6 ⟨b6, rfl, hd6, hb6'⟩; have HD6 := Lib.hid hd6; have hb6 := chain_then hb5 hb6'; clear hd6)
        | (go_at_call 49; refine (refreverse_calls l _ w6 S (HL.out.below hb6) H65.out).mono ?_; rintro e w7 ⟨v7, rfl, hv7, hb7'⟩; have hb7 := chain_then hb6 hb7'; have HI2 := Lib.hid (is_calls _ b6 _ w7 _ _ (HD6.out.below hb7') hv7); clear hv7)
        | (go_at_call 45; refine HI2.out.mono ?_; rintro e w8 ⟨rfl, hb8'⟩; have hb8 := chain_then hb7 hb8'; have HI3 := Lib.hid (is_calls l b _ w8 _ S (HV.out.below (chain_then hb3' (chain_then hb4' (chain_then hb5' (chain_then hb6' (chain_then hb7' hb8')))))) (HL.out.below hb8)); clear HI2)
        | (go_at_call 45; refine HI3.out.mono ?_; rintro e wB ⟨rfl, hbB'⟩; have hbB := chain_then hb8 hbB'; clear HI3)
        | (go_at_call 38; refine (sspeaks_calls _ (tabs_below HT.out hbB)).mono ?_; rintro e wC ⟨rfl, hbC'⟩; have hbC := chain_then hbB hbC'))
      go_ret
      exact ⟨rfl, hbC⟩
  · have HN := Lib.hid h0
    have h1 : (listE l == 0) = false := by simpa using h0
    have h2 : (listE l != 0) = true := by simpa using h0
    obtain ⟨E, hE⟩ : ∃ E, listE l = E := ⟨_, rfl⟩
    rw [hE] at HOF HN h0 h1 h2
    clear hl hT hE
    go_enter Tryd.func8, Tryd.ntmps8
    go_wp2_with (first
      | (go_at_call 13; refine HOF.out.mono ?_; rintro e w2 ⟨p, rfl, hp, hb2⟩; obtain rfl := (hp.resolve_right (fun h => HN.out h.1)).2; clear hp)
      | (go_at_call 38; refine (sspeaks_calls _ (tabs_below HT.out hb2)).mono ?_; rintro e w11 ⟨rfl, hb11'⟩; have hb11 := chain_then hb2 hb11'))
    go_ret
    exact ⟨rfl, hb11⟩
end Go.Proofs.YtjjbhnkplbjfeaaDoor
