/- The law SplitFinds. -/
import Derived.Test.YtjjbhnkplbjfeaaDoorCSpS

set_option linter.unusedVariables false
set_option linter.unusedSimpArgs false
namespace Go.Proofs.YtjjbhnkplbjfeaaDoor
open Go.RowKit
attribute [local go_sem] lt_succ_of

theorem bool_beq (b : Bool) : (b == b) = true := by simp
set_option maxRecDepth 100000 in
set_option maxHeartbeats 8000000 in
theorem splitfinds_calls (l : List V) (m : Int) (A : Option Addr) (cA : Nat) (w : World) (S : Nat → Prop) (hl : IsS w S l (.slice A l.length cA)) (hT : Lib.Utf8Tabs 1 2 w) :
    Calls Tryd.prog 7 #[.slice A l.length cA, .int .i64 m] w fun e w' => e = .returned (.bool true) ∧ Below w.heap.size w w' := by
  have HOF := Lib.hid (dof_calls l _ w S hl hT)
  have HL := Lib.hid hl
  have HT := Lib.hid hT
  by_cases h0 : listE l = 0
  · have HE := Lib.hid h0
    have H65 := Lib.hid (listE_len h0)
    rw [h0] at HOF
    by_cases hm : m < 0
    · have HM := Lib.hid hm
      have HRF := Lib.hid ((reffind_calls l _ m w S hl H65.out).mono (fun e w' hh => (hh.resolve_right (fun h => h.1 hm)).2))
      clear hm h0 hl hT
      go_enter Tryd.func7, Tryd.ntmps7
      go_wp2_with (first
        | (go_at_call 13; refine HOF.out.mono ?_; rintro e w2 ⟨p, rfl, hp, hb2⟩; obtain ⟨b, rfl, hv⟩ := (hp.resolve_left (fun h => h.1 rfl)).2; have HV := Lib.hid hv.all; clear hp hv)
        | (go_at_call 39; refine (find_bad _ m w2 HM.out).mono ?_; rintro e w3 ⟨rfl, hb3'⟩; have hb3 := chain_then hb2 hb3')
        | (go_at_call 40; refine ((reffind_calls l _ m w3 S (HL.out.below hb3) H65.out).mono (fun e w' hh => (hh.resolve_right (fun h => h.1 HM.out)).2)).mono ?_; rintro e w4 ⟨rfl, hb4'⟩; have hb4 := chain_then hb3 hb4')
        | (go_at_call 41; refine (heavy_bad _ m w4 HM.out).mono ?_; rintro e w5 ⟨rfl, hb5'⟩; have hb5 := chain_then hb4 hb5')
        | (go_at_call 42; refine ((refheavy_calls l _ m w5 S (HL.out.below hb5) H65.out).mono (fun e w' hh => (hh.resolve_right (fun h => h.1 HM.out)).2)).mono ?_; rintro e w6 ⟨rfl, hb6'⟩; have hb6 := chain_then hb5 hb6'; have HW := Lib.hid (dweight_calls l _ w6 _ ((HV.out.below (chain_then hb3' (chain_then hb4' (chain_then hb5' hb6')))).is))))
      have hib := Lib.hid (fun W => is_bad 1 (.slice none 0 0) W (.inl rfl) ⟨_, _, _, rfl⟩)
      go_wp2_with (first
        | (go_at_call 43; refine HW.out.mono ?_; rintro e w7 ⟨rfl, hb7'⟩; have hb7 := chain_then hb6 hb7')
        | (go_at_call 44; refine (refweight_calls l _ w7 S (HL.out.below hb7) H65.out).mono ?_; rintro e w8 ⟨rfl, hb8'⟩; have hb8 := chain_then hb7 hb8'; have e1 : (weightV l == weightV l) = true := by simp)
        | (go_at_call 45; refine (hib.out w8).mono ?_; rintro e w9 ⟨rfl, rfl⟩)
        | (go_at_call 38; refine (sspeaks_calls w8 (tabs_below HT.out hb8)).mono ?_; rintro e w9 ⟨rfl, hb9'⟩; have hb9 := chain_then hb8 hb9'))
      go_ret
      exact ⟨rfl, hb9⟩
    · have HM := Lib.hid hm
      clear hm h0 hl hT
      go_enter Tryd.func7, Tryd.ntmps7
      go_wp2_with (first
        | (go_at_call 13; refine HOF.out.mono ?_; rintro e w2 ⟨p, rfl, hp, hb2⟩; obtain ⟨b, rfl, hv⟩ := (hp.resolve_left (fun h => h.1 rfl)).2; have HV := Lib.hid hv.all; clear hp hv)
        | (go_at_call 39; refine (find_calls l _ m w2 _ HV.out.is (by have := HM.out; omega)).mono ?_; rintro e w3 ⟨n, ok, rfl, hf1, hb3'⟩; have HF1 := Lib.hid hf1; have hb3 := chain_then hb2 hb3'; clear hf1)
        | (go_at_call 40; refine ((reffind_calls l _ m w3 S (HL.out.below hb3) H65.out).mono (fun e w' hh => (hh.resolve_left (fun h => absurd h.1 (by have := HM.out; omega))).2)).mono ?_; rintro e w4 ⟨n2, ok2, rfl, hf2, hb4'⟩; obtain ⟨rfl, rfl⟩ := HF1.out.unique hf2; have hb4 := chain_then hb3 hb4'; clear hf2)
        | (go_at_call 41; refine (heavy_calls l _ m w4 _ (HV.out.below (chain_then hb3' hb4')).is HE.out (tabs_below HT.out hb4) (by have := HM.out; omega)).mono ?_; rintro e w5 ⟨n3, ok3, b5, c5, hf3, rfl, hv5, hx5, hb5'⟩; obtain ⟨rfl, rfl⟩ := HF1.out.unique hf3; have HV5 := Lib.hid hv5; have HX5 := Lib.hid hx5; have hb5 := chain_then hb4 hb5'; clear hf3 hv5 hx5)
        | (go_at_call 42; refine ((refheavy_calls l _ m w5 S (HL.out.below hb5) H65.out).mono (fun e w' hh => (hh.resolve_left (fun h => absurd h.1 (by have := HM.out; omega))).2)).mono ?_; rintro e w6 ⟨n4, ok4, v6, u6, hf4, rfl, hv6, hx6, hb6'⟩; obtain ⟨rfl, rfl⟩ := HF1.out.unique hf4; have HV6 := Lib.hid hv6; have HX6 := Lib.hid hx6; have hb6 := chain_then hb5 hb6'; have HW := Lib.hid (dweight_calls l _ w6 _ ((HV.out.below (chain_then hb3' (chain_then hb4' (chain_then hb5' hb6')))).is)); clear hf4 hv6 hx6))
      have e2 := bool_beq ok
      have e3 : (ok != ok) = false := by simp
      have e4 : ((n : Int) == (n : Int)) = true := by simp
      go_wp2_with (first
        | (go_at_call 43; refine HW.out.mono ?_; rintro e w7 ⟨rfl, hb7'⟩; have hb7 := chain_then hb6 hb7')
        | (go_at_call 44; refine (refweight_calls l _ w7 S (HL.out.below hb7) H65.out).mono ?_; rintro e w8 ⟨rfl, hb8'⟩; have hb8 := chain_then hb7 hb8'; have e1 : (weightV l == weightV l) = true := (by simp); have HI1 := Lib.hid (is_calls _ b5 _ w8 _ _ (HV5.out.below (chain_then hb6' (chain_then hb7' hb8'))) (HV6.out.below (chain_then hb7' hb8'))); clear HV5 HV6))
      go_wp2_with (first
        | (go_at_call 45; refine HI1.out.mono ?_; rintro e w9 ⟨rfl, hb9'⟩; have hb9 := chain_then hb8 hb9'; have HI2 := Lib.hid (is_calls _ c5 _ w9 _ _ (HX5.out.below (chain_then hb6' (chain_then hb7' (chain_then hb8' hb9')))) (HX6.out.below (chain_then hb7' (chain_then hb8' hb9')))); clear HX5 HX6 HI1)
        | (go_at_call 45; refine HI2.out.mono ?_; rintro e w10 ⟨rfl, hb10'⟩; have hb10 := chain_then hb9 hb10'; clear HI2)
        | (go_at_call 38; refine (sspeaks_calls _ (tabs_below HT.out hb10)).mono ?_; rintro e w11 ⟨rfl, hb11'⟩; have hb11 := chain_then hb10 hb11'))
      go_ret
      exact ⟨rfl, hb11⟩
  · have HN := Lib.hid h0
    have h1 : (listE l == 0) = false := by simpa using h0
    have h2 : (listE l != 0) = true := by simpa using h0
    obtain ⟨E, hE⟩ : ∃ E, listE l = E := ⟨_, rfl⟩
    rw [hE] at HOF HN h0 h1 h2
    clear hl hT hE
    go_enter Tryd.func7, Tryd.ntmps7
    go_wp2_with (first
      | (go_at_call 13; refine HOF.out.mono ?_; rintro e w2 ⟨p, rfl, hp, hb2⟩; obtain rfl := (hp.resolve_right (fun h => HN.out h.1)).2; clear hp)
      | (go_at_call 38; refine (sspeaks_calls _ (tabs_below HT.out hb2)).mono ?_; rintro e w11 ⟨rfl, hb11'⟩; have hb11 := chain_then hb2 hb11'))
    go_ret
    exact ⟨rfl, hb11⟩
end Go.Proofs.YtjjbhnkplbjfeaaDoor
