/- The law SplitCuts. -/
import Derived.Test.YtjjbhnkplbjfeaaDoorCSqH

set_option linter.unusedVariables false
set_option linter.unusedSimpArgs false
namespace Go.Proofs.YtjjbhnkplbjfeaaDoor
open Go.RowKit
attribute [local go_sem] lt_succ_of

theorem cells2B {w w' : World} {b : Nat} {v1 v2 : Value} (hb : Below w.heap.size w w') (h : w.cell? ⟨b, 0, none⟩ = some v1 ∧ w.cell? ⟨b, 1, none⟩ = some v2) : w'.cell? ⟨b, 0, none⟩ = some v1 ∧ w'.cell? ⟨b, 1, none⟩ = some v2 := ⟨cellB hb h.1, cellB hb h.2⟩
set_option maxRecDepth 100000 in
set_option maxHeartbeats 16000000 in
theorem splitcuts_calls (l m : List V) (i j : Int) (A B : Option Addr) (c d : Nat) (w : World) (S S' : Nat → Prop) (hl : IsS w S l (.slice A l.length c)) (hm : IsS w S' m (.slice B m.length d)) (hT : Lib.Utf8Tabs 1 2 w) :
    Calls Tryd.prog 11 #[.agg #[.slice A l.length c, .slice B m.length d], .int .i64 i, .int .i64 j] w fun e w' => e = .returned (.bool true) ∧ Below w.heap.size w w' := by
  obtain ⟨w1, hw1, hB1, hsz, hb0⟩ := box2 w 78 (.slice A l.length c) (.slice B m.length d)
  obtain ⟨c0, c1⟩ := block2 hb0
  have HB0 := Lib.hid hb0
  have HL := Lib.hid (hl.below hB1)
  have HM := Lib.hid (hm.below hB1)
  have HT := Lib.hid (tabs_below hT hB1)
  by_cases h0 : listE l = 0 ∧ listE m = 0
  · obtain ⟨h1, h2⟩ := h0
    have HMD := Lib.hid (made2_ok l m A B c d w1 S S' HL.out HM.out HT.out h1 h2)
    have HOL := Lib.hid h1
    have HOM := Lib.hid h2
    obtain ⟨E1, hE1⟩ : ∃ E, catE l m = E := ⟨_, rfl⟩
    obtain ⟨E2, hE2⟩ : ∃ E, cutE l i = E := ⟨_, rfl⟩
    obtain ⟨E3, hE3⟩ : ∃ E, sliceE l i j = E := ⟨_, rfl⟩
    obtain ⟨Q, hQ⟩ : ∃ Q, eqL l m = Q := ⟨_, rfl⟩
    have HR1 : Hid (-10 ≤ E1 ∧ E1 ≤ 10) := Lib.hid (by rw [← hE1]; unfold catE; split <;> omega)
    have HR2 : Hid (-10 ≤ E2 ∧ E2 ≤ 10) := Lib.hid (by rw [← hE2]; unfold cutE; split <;> omega)
    have HR3 : Hid (-10 ≤ E3 ∧ E3 ≤ 10) := Lib.hid (by rw [← hE3]; unfold sliceE; split <;> omega)
    have HQ : Hid (eqC l m = Q) := Lib.hid (by rw [eqC_eqL l m (listE_right h1) (listE_right h2)]; exact hQ)
    have HQ2 := Lib.hid hQ
    have HE1 := Lib.hid hE1
    have HE2 := Lib.hid hE2
    have HE3 := Lib.hid hE3
    have q1 : (Q == Q) = true := by simp
    clear h1 h2 hl hm hT hb0 hE1 hE2 hE3 hQ
    go_enter Tryd.func11, Tryd.ntmps11
    go_wp2_with (first
      | (go_at_call 51; refine HMD.out.mono ?_; rintro e w2 ⟨a, b, rfl, ha2, hb2v, hb2⟩; have Ha := Lib.hid ha2; have Hb := Lib.hid hb2v; have K := Lib.hid (blockB hb2 HB0.out); clear c0 c1; obtain ⟨c0, c1⟩ := block2 K.out; have HC1 := Lib.hid (concat_out l m _ _ w2 _ _ Ha.out Hb.out.is HOL.out HOM.out (tabs_below HT.out hb2)); clear ha2 hb2v HMD)
      | (go_at_call 54; refine HC1.out.mono ?_; rintro e w3 ⟨p3, rfl, hp3, hb3'⟩; rw [HE1.out] at hp3; rw [HE1.out]; have hb3 := chain_then hb2 hb3'; have Ha := Lib.hid (Ha.out.below hb3'); have Hb := Lib.hid (Hb.out.below hb3'); have K := Lib.hid (blockB hb3' K.out); clear c0 c1; obtain ⟨c0, c1⟩ := block2 K.out; have P3 := Lib.hid hp3; have HC2 := Lib.hid (refconcat_out l m _ _ w3 S S' (HL.out.below hb3) (HM.out.below hb3) (listE_len HOL.out) (listE_len HOM.out)); clear hp3 HC1)
      | (go_at_call 55; refine HC2.out.mono ?_; rintro e w4 ⟨v4, rfl, hv4, hb4'⟩; rw [HE1.out] at hv4; rw [HE1.out]; have hb4 := chain_then hb3 hb4'; have Ha := Lib.hid (Ha.out.below hb4'); have Hb := Lib.hid (Hb.out.below hb4'); have P3 := Lib.hid (P3.out.below hb4'); have K := Lib.hid (blockB hb4' K.out); clear c0 c1; obtain ⟨c0, c1⟩ := block2 K.out; have V4 := Lib.hid hv4; have HC3 := Lib.hid (cut_out l _ i w4 _ Ha.out.is HOL.out (tabs_below HT.out hb4)); clear hv4 HC2)
      | (go_at_call 52; refine HC3.out.mono ?_; rintro e w5 ⟨p5, q5, rfl, hp5, hq5, hb5'⟩; rw [HE2.out] at hp5 hq5; rw [HE2.out]; have hb5 := chain_then hb4 hb5'; have Ha := Lib.hid (Ha.out.below hb5'); have Hb := Lib.hid (Hb.out.below hb5'); have P3 := Lib.hid (P3.out.below hb5'); have V4 := Lib.hid (V4.out.below hb5'); have K := Lib.hid (blockB hb5' K.out); clear c0 c1; obtain ⟨c0, c1⟩ := block2 K.out; have P5 := Lib.hid hp5; have Q5 := Lib.hid hq5; have HC4 := Lib.hid (refcut_out l _ i w5 S (HL.out.below hb5) (listE_len HOL.out)); clear hp5 hq5 HC3)
      | (go_at_call 53; refine HC4.out.mono ?_; rintro e w6 ⟨u6, v6, rfl, hu6, hv6, hb6'⟩; rw [HE2.out] at hu6 hv6; rw [HE2.out]; have hb6 := chain_then hb5 hb6'; have Ha := Lib.hid (Ha.out.below hb6'); have Hb := Lib.hid (Hb.out.below hb6'); have P3 := Lib.hid (P3.out.below hb6'); have V4 := Lib.hid (V4.out.below hb6'); have P5 := Lib.hid (P5.out.below hb6'); have Q5 := Lib.hid (Q5.out.below hb6'); have K := Lib.hid (blockB hb6' K.out); clear c0 c1; obtain ⟨c0, c1⟩ := block2 K.out; have U6 := Lib.hid hu6; have V6 := Lib.hid hv6; have HC5 := Lib.hid (slice_out l _ i j w6 _ Ha.out.is HOL.out (tabs_below HT.out hb6)); clear hu6 hv6 HC4)
      | (go_at_call 56; refine HC5.out.mono ?_; rintro e w7 ⟨p7, rfl, hp7, hb7'⟩; rw [HE3.out] at hp7; rw [HE3.out]; have hb7 := chain_then hb6 hb7'; have Ha := Lib.hid (Ha.out.below hb7'); have Hb := Lib.hid (Hb.out.below hb7'); have P3 := Lib.hid (P3.out.below hb7'); have V4 := Lib.hid (V4.out.below hb7'); have P5 := Lib.hid (P5.out.below hb7'); have Q5 := Lib.hid (Q5.out.below hb7'); have U6 := Lib.hid (U6.out.below hb7'); have V6 := Lib.hid (V6.out.below hb7'); have K := Lib.hid (blockB hb7' K.out); clear c0 c1; obtain ⟨c0, c1⟩ := block2 K.out; have P7 := Lib.hid hp7; have HC6 := Lib.hid (refslice_out l _ i j w7 S (HL.out.below hb7) (listE_len HOL.out)); clear hp7 HC5)
      | (go_at_call 57; refine HC6.out.mono ?_; rintro e w8 ⟨v8, rfl, hv8, hb8'⟩; rw [HE3.out] at hv8; rw [HE3.out]; have hb8 := chain_then hb7 hb8'; have Ha := Lib.hid (Ha.out.below hb8'); have Hb := Lib.hid (Hb.out.below hb8'); have P3 := Lib.hid (P3.out.below hb8'); have V4 := Lib.hid (V4.out.below hb8'); have P5 := Lib.hid (P5.out.below hb8'); have Q5 := Lib.hid (Q5.out.below hb8'); have U6 := Lib.hid (U6.out.below hb8'); have V6 := Lib.hid (V6.out.below hb8'); have P7 := Lib.hid (P7.out.below hb8'); have K := Lib.hid (blockB hb8' K.out); clear c0 c1; obtain ⟨c0, c1⟩ := block2 K.out; have V8 := Lib.hid hv8; clear hv8 HC6))
    have HC7 : Hid (∀ W, Below w8.heap.size w8 W → Calls Tryd.prog 45 #[.pointer _, .int .i64 _, _, .int .i64 _] W fun e w' => e = .returned (.bool true) ∧ Below W.heap.size W w') := Lib.hid fun W hW => is_any HR1.out (P3.out.below hW) (V4.out.below hW)
    clear P3 V4
    go_region_held3 (fun w' => w'.cell? ⟨w.heap.size, 0, none⟩ = some (.slice A l.length c) ∧ w'.cell? ⟨w.heap.size, 1, none⟩ = some (.slice B m.length d))
      (first | exact block2 K.out | go_keep)
      (first
        | (go_at_call 45; refine (HC7.out _ (by repeat (first | exact Below.refl _ _ | refine drew_of ?_))).mono ?_; rintro e w9 ⟨rfl, hbr9⟩; have hb9' : Below w8.heap.size w8 w9 := chain_then (by repeat (first | exact Below.refl _ _ | refine drew_of ?_)) hbr9; have hb9 := chain_then hb8 hb9'; have K := Lib.hid (blockB hb9' K.out); have Ha := Lib.hid (Ha.out.below hb9'); have Hb := Lib.hid (Hb.out.below hb9'); have P5 := Lib.hid (P5.out.below hb9'); have Q5 := Lib.hid (Q5.out.below hb9'); have U6 := Lib.hid (U6.out.below hb9'); have V6 := Lib.hid (V6.out.below hb9'); have P7 := Lib.hid (P7.out.below hb9'); have V8 := Lib.hid (V8.out.below hb9'); have HC8 : Hid (∀ W, Below w9.heap.size w9 W → Calls Tryd.prog 45 #[.pointer _, .int .i64 _, _, .int .i64 _] W fun e w' => e = .returned (.bool true) ∧ Below W.heap.size W w') := Lib.hid fun W hW => is_any HR2.out (P5.out.below hW) (U6.out.below hW); clear HC7 P5 U6)
        | (go_at_call 45; refine (HC8.out _ (by repeat (first | exact Below.refl _ _ | refine drew_of ?_))).mono ?_; rintro e w10 ⟨rfl, hbr10⟩; have hb10' : Below w9.heap.size w9 w10 := chain_then (by repeat (first | exact Below.refl _ _ | refine drew_of ?_)) hbr10; have hb10 := chain_then hb9 hb10'; have K := Lib.hid (blockB hb10' K.out); have Ha := Lib.hid (Ha.out.below hb10'); have Hb := Lib.hid (Hb.out.below hb10'); have Q5 := Lib.hid (Q5.out.below hb10'); have V6 := Lib.hid (V6.out.below hb10'); have P7 := Lib.hid (P7.out.below hb10'); have V8 := Lib.hid (V8.out.below hb10'); have HC9 : Hid (∀ W, Below w10.heap.size w10 W → Calls Tryd.prog 45 #[.pointer _, .int .i64 _, _, .int .i64 _] W fun e w' => e = .returned (.bool true) ∧ Below W.heap.size W w') := Lib.hid fun W hW => is_any HR2.out (Q5.out.below hW) (V6.out.below hW); clear HC8 Q5 V6)
        | (go_at_call 45; refine (HC9.out _ (by repeat (first | exact Below.refl _ _ | refine drew_of ?_))).mono ?_; rintro e w11 ⟨rfl, hbr11⟩; have hb11' : Below w10.heap.size w10 w11 := chain_then (by repeat (first | exact Below.refl _ _ | refine drew_of ?_)) hbr11; have hb11 := chain_then hb10 hb11'; have K := Lib.hid (blockB hb11' K.out); have Ha := Lib.hid (Ha.out.below hb11'); have Hb := Lib.hid (Hb.out.below hb11'); have P7 := Lib.hid (P7.out.below hb11'); have V8 := Lib.hid (V8.out.below hb11'); have HC10 : Hid (∀ W, Below w11.heap.size w11 W → Calls Tryd.prog 45 #[.pointer _, .int .i64 _, _, .int .i64 _] W fun e w' => e = .returned (.bool true) ∧ Below W.heap.size W w') := Lib.hid fun W hW => is_any HR3.out (P7.out.below hW) (V8.out.below hW); clear HC9 P7 V8)
        | (go_at_call 45; refine (HC10.out _ (by repeat (first | exact Below.refl _ _ | refine drew_of ?_))).mono ?_; rintro e w12 ⟨rfl, hbr12⟩; have hb12' : Below w11.heap.size w11 w12 := chain_then (by repeat (first | exact Below.refl _ _ | refine drew_of ?_)) hbr12; have hb12 := chain_then hb11 hb12'; have K := Lib.hid (blockB hb12' K.out); have Ha := Lib.hid (Ha.out.below hb12'); have Hb := Lib.hid (Hb.out.below hb12'); have HC11 : Hid (∀ W, Below w12.heap.size w12 W → Calls Tryd.prog 45 #[.pointer (some ⟨a, 0, none⟩), .int .i64 0, .slice A l.length c, .int .i64 0] W fun e w' => e = .returned (.bool true) ∧ Below W.heap.size W w') := Lib.hid fun W hW => is_calls l a _ W _ S (Ha.out.below hW) (HL.out.below (chain_then hb12 hW)); clear HC10)
        | (go_at_call 45; refine (HC11.out _ (by repeat (first | exact Below.refl _ _ | refine drew_of ?_))).mono ?_; rintro e w13 ⟨rfl, hbr13⟩; have hb13' : Below w12.heap.size w12 w13 := chain_then (by repeat (first | exact Below.refl _ _ | refine drew_of ?_)) hbr13; have hb13 := chain_then hb12 hb13'; have K := Lib.hid (blockB hb13' K.out); have Ha := Lib.hid (Ha.out.below hb13'); have Hb := Lib.hid (Hb.out.below hb13'); have HC12 : Hid (∀ W, Below w13.heap.size w13 W → Calls Tryd.prog 50 #[.pointer (some ⟨a, 0, none⟩), .pointer (some ⟨b, 0, none⟩)] W fun e w' => e = .returned (.bool Q) ∧ Below W.heap.size W w') := Lib.hid fun W hW => (by have hq := dequal_calls l m _ _ W _ _ (Ha.out.below hW).is (Hb.out.below hW).is; rw [HQ.out] at hq; exact hq); clear HC11)
        | (go_at_call 50; refine (HC12.out _ (by repeat (first | exact Below.refl _ _ | refine drew_of ?_))).mono ?_; rintro e w14 ⟨rfl, hbr14⟩; have hb14' : Below w13.heap.size w13 w14 := chain_then (by repeat (first | exact Below.refl _ _ | refine drew_of ?_)) hbr14; have hb14 := chain_then hb13 hb14'; have K := Lib.hid (blockB hb14' K.out); have HC13 : Hid (∀ W, Below w14.heap.size w14 W → Calls Tryd.prog 17 #[.slice A l.length c, .slice B m.length d] W fun e w' => e = .returned (.bool Q) ∧ Below W.heap.size W w') := Lib.hid fun W hW => (by have hq := sames_calls l m _ _ W S S' (HL.out.below (chain_then hb14 hW)) (HM.out.below (chain_then hb14 hW)); rw [HQ2.out] at hq; exact hq); clear HC12 Ha Hb)
        | (go_at_call 17; refine (HC13.out _ (by repeat (first | exact Below.refl _ _ | refine drew_of ?_))).mono ?_; rintro e w15 ⟨rfl, hbr15⟩; have hb15' : Below w14.heap.size w14 w15 := chain_then (by repeat (first | exact Below.refl _ _ | refine drew_of ?_)) hbr15; have hb15 := chain_then hb14 hb15'; have K := Lib.hid (blockB hb15' K.out); have HC14 : Hid (∀ W, Below w15.heap.size w15 W → Calls Tryd.prog 38 #[] W fun e w' => e = .returned (.bool true) ∧ Below W.heap.size W w') := Lib.hid fun W hW => sspeaks_calls W (tabs_below HT.out (chain_then hb15 hW)); clear HC13)
        | (go_at_call 38; refine (HC14.out _ (by repeat (first | exact Below.refl _ _ | refine drew_of ?_))).mono ?_; rintro e w16 ⟨rfl, hbr16⟩; have hb16' : Below w15.heap.size w15 w16 := chain_then (by repeat (first | exact Below.refl _ _ | refine drew_of ?_)) hbr16; have hb16 := chain_then hb15 hb16'; have K := Lib.hid (blockB hb16' K.out); have hbE := chain_then hB1 hb16; clear HC14))
    all_goals go_wp2_with fail
    all_goals go_ret
    all_goals exact ⟨rfl, hbE⟩
  · have HMD := Lib.hid (made2_bad l m A B c d w1 S S' HL.out HM.out HT.out h0)
    clear h0 hl hm hT hb0
    go_enter Tryd.func11, Tryd.ntmps11
    go_wp2_with (first
      | (go_at_call 51; refine HMD.out.mono ?_; rintro e w2 ⟨p, q, rfl, hb2⟩)
      | (go_at_call 38; refine (sspeaks_calls _ (tabs_below HT.out hb2)).mono ?_; rintro e w3 ⟨rfl, hb3'⟩; have hb3 := chain_then hB1 (chain_then hb2 hb3')))
    go_ret
    exact ⟨rfl, hb3⟩
end Go.Proofs.YtjjbhnkplbjfeaaDoor
