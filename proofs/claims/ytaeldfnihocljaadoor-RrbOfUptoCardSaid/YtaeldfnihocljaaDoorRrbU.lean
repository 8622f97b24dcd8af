/- The law RrbOf, of lists that are right. -/
import Derived.Test.YtaeldfnihocljaaDoorRrbT
set_option linter.unusedVariables false
set_option linter.unusedSimpArgs false
namespace Go.Proofs.YtaeldfnihocljaaDoor
open Go.RowKit
attribute [local go_sem] lt_succ_of

theorem IsS.drop_all {w : World} {S : Nat → Prop} {l : List V} {A : Option Addr} {F c : Nat} (h : l.length ≤ F) : IsS w S (l.drop F) (.slice A 0 c) :=
  ⟨A, c, by rw [List.length_drop, show l.length - F = 0 by omega], by rw [List.length_drop]; omega, by rw [List.length_drop]; omega, .inl (List.drop_eq_nil_of_le h)⟩
set_option maxRecDepth 100000 in
set_option maxHeartbeats 8000000 in
theorem rrbof_neg (l : List V) (i : Int) (A : Option Addr) (cA : Nat) (w : World) (S : Nat → Prop) (hl : IsS w S l (.slice A l.length cA)) (hT : Lib.Utf8Tabs 0 1 w) (h0 : listE l = 0) (hi0 : -9223372036854775808 ≤ i) (hi1 : i ≤ 9223372036854775807) (hle : i < 0) :
    Calls Tryd.prog 3 #[.slice A l.length cA, .int .i64 i] w fun e w' => e = .returned (.bool true) ∧ Below w.heap.size w w' := by
  have HOF := Lib.hid (of_calls l _ w S hl hT)
  have HL := Lib.hid hl
  have HT := Lib.hid hT
  have HE := Lib.hid h0
  rw [h0] at HOF
  have hl65 : l.length ≤ 65536 := by
    unfold listE at h0
    split at h0
    · omega
    · omega
  have hcA : l.length ≤ cA := by
    obtain ⟨A', c', e, h1, _⟩ := hl
    simp only [Value.slice.injEq, true_and] at e
    omega
  have hz : i.toNat = 0 := by omega
  obtain ⟨NV, hNV⟩ : ∃ q, nthV l i = q := ⟨_, rfl⟩
  have HNV := Lib.hid hNV
  clear hT h0 hNV hl
  go_enter Tryd.func3, Tryd.ntmps3
  go_wp2_with (first
    | (go_at_call 11; refine HOF.out.mono ?_; rintro e w2 ⟨p, rfl, hp, hb2⟩; obtain ⟨h, b, rfl, hv⟩ := (hp.resolve_left (fun h => h.1 rfl)).2; have HV := Lib.hid hv; have HLS := Lib.hid (listed_calls l _ w2 S (HL.out.below hb2)); rw [HE.out] at HLS; clear hp hv)
    | (go_at_call 12; refine HLS.out.mono ?_; rintro e w3 ⟨rfl, hb3⟩; have hb4 := below_then hb2 hb2.size hb3; have HV3 := Lib.hid (HV.out.below hb3); have HSM := Lib.hid (vsame_calls l l h b _ w3 _ S HV3.out (HL.out.below hb4)); rw [eqL_self] at HSM)
    | (go_at_call 14; refine HSM.out.mono ?_; rintro e w5 ⟨rfl, hb5⟩; have hb6 := below_then hb4 hb4.size hb5; have HV5 := Lib.hid (HV3.out.below hb5); have HN := Lib.hid (nth_calls l h b i w5 _ HV5.out hi0 hi1); rw [HNV.out] at HN)
    | (go_at_call 15; refine HN.out.mono ?_; rintro e w7 ⟨v7, rfl, hv7, hb7⟩; obtain ⟨hbd7, A7, c7, rfl, hc7, hLA7⟩ := hv7.eq; have hb8 := below_then hb6 hb6.size hb7; have HV7 := Lib.hid (HV5.out.below hb7); have HX7 := Lib.hid hv7; clear hv7 hLA7)
    | (go_at_call 16; refine (refnth_calls l i _ _ S ((HL.out.below hb8).below ((Below.refl _ _).alloc (Nat.le_refl _) _)) hi0 hi1).mono ?_; rintro e w9 ⟨v9, rfl, hv9, hb9⟩; rw [HNV.out] at hv9; rw [HNV.out]; obtain ⟨hbd9, A9, c9, rfl, hc9, hLA9⟩ := hv9.eq; have hb10 := below_then ((Below.refl _ _).alloc (Nat.le_refl _) _) (by simp) hb9; have hk7 := blockB hb9 (heap_alloc_new w7 (.cells #[.int .i64 NV.1.kind, .int .i64 NV.1.num, .string NV.1.text, .slice A7 NV.1.items.length c7] 31)); obtain ⟨m0, m1, m2, m3⟩ := block4 hk7; have l7 := World.block_lt_of_cell? w9 _ m0; have hb11 := below_then hb8 hb8.size hb10; have HV9 := Lib.hid (HV7.out.below hb10); have HX9 := Lib.hid hv9; have HX79 := Lib.hid (HX7.out.below hb10); clear hv9 hLA9 hk7 hb9)
    | (go_at_call 17; refine (same_calls NV.1 NV.1 _ _ _ _ _ (HX79.out.below ((Below.refl _ _).alloc (Nat.le_refl _) _)) (HX9.out.below ((Below.refl _ _).alloc (Nat.le_refl _) _))).mono ?_; rintro e w11 ⟨rfl, hb12⟩; rw [eqV_self]; have hb13 := below_then ((Below.refl _ _).alloc (Nat.le_refl _) _) (by simp) hb12; have hb14 := below_then hb11 hb11.size hb13; have HV11 := Lib.hid (HV9.out.below hb13))
    | (go_at_call 18; refine (gone_calls l h b i _ _ HV11.out hi0 hi1).mono ?_; rintro e w12 ⟨v12, rfl, hv12, hb15⟩; have hb16 := below_then hb14 hb14.size hb15; have HG := Lib.hid hv12; clear hv12)
    | (go_at_call 19; refine (sames_calls (l.drop (i).toNat) (l.drop (i).toNat) _ _ _ _ S HG.out (by rw [hz, List.drop_zero]; exact HL.out.below hb16)).mono ?_; rintro e w13 ⟨rfl, hb17⟩; rw [eqL_self]; have hb18 := below_then hb16 hb16.size hb17)
    | (go_at_call 13; refine (speaks_calls _ (tabs_below HT.out hb18)).mono ?_; rintro e w14 ⟨rfl, hb19⟩; have hb20 := below_then hb18 hb18.size hb19))
  go_ret
  exact ⟨rfl, hb20⟩
set_option maxRecDepth 100000 in
set_option maxHeartbeats 8000000 in
theorem rrbof_zero (l : List V) (A : Option Addr) (cA : Nat) (w : World) (S : Nat → Prop) (hl : IsS w S l (.slice A l.length cA)) (hT : Lib.Utf8Tabs 0 1 w) (h0 : listE l = 0) (hc : 0 < cA) :
    Calls Tryd.prog 3 #[.slice A l.length cA, .int .i64 (0 : Int)] w fun e w' => e = .returned (.bool true) ∧ Below w.heap.size w w' := by
  have HOF := Lib.hid (of_calls l _ w S hl hT)
  have HL := Lib.hid hl
  have HT := Lib.hid hT
  have HE := Lib.hid h0
  rw [h0] at HOF
  have hl65 : l.length ≤ 65536 := by
    unfold listE at h0
    split at h0
    · omega
    · omega
  have hcA : l.length ≤ cA := by
    obtain ⟨A', c', e, h1, _⟩ := hl
    simp only [Value.slice.injEq, true_and] at e
    omega
  have hz : (0 : Int).toNat = 0 := rfl
  have hi0 : -9223372036854775808 ≤ (0 : Int) := by omega
  have hi1 : (0 : Int) ≤ 9223372036854775807 := by omega
  obtain ⟨NV, hNV⟩ : ∃ q, nthV l (0 : Int) = q := ⟨_, rfl⟩
  have HNV := Lib.hid hNV
  clear hT h0 hNV hl
  go_enter Tryd.func3, Tryd.ntmps3
  go_wp2_with (first
    | (go_at_call 11; refine HOF.out.mono ?_; rintro e w2 ⟨p, rfl, hp, hb2⟩; obtain ⟨h, b, rfl, hv⟩ := (hp.resolve_left (fun h => h.1 rfl)).2; have HV := Lib.hid hv; have HLS := Lib.hid (listed_calls l _ w2 S (HL.out.below hb2)); rw [HE.out] at HLS; clear hp hv)
    | (go_at_call 12; refine HLS.out.mono ?_; rintro e w3 ⟨rfl, hb3⟩; have hb4 := below_then hb2 hb2.size hb3; have HV3 := Lib.hid (HV.out.below hb3); have HSM := Lib.hid (vsame_calls l l h b _ w3 _ S HV3.out (HL.out.below hb4)); rw [eqL_self] at HSM)
    | (go_at_call 14; refine HSM.out.mono ?_; rintro e w5 ⟨rfl, hb5⟩; have hb6 := below_then hb4 hb4.size hb5; have HV5 := Lib.hid (HV3.out.below hb5); have HN := Lib.hid (nth_calls l h b (0 : Int) w5 _ HV5.out hi0 hi1); rw [HNV.out] at HN)
    | (go_at_call 15; refine HN.out.mono ?_; rintro e w7 ⟨v7, rfl, hv7, hb7⟩; obtain ⟨hbd7, A7, c7, rfl, hc7, hLA7⟩ := hv7.eq; have hb8 := below_then hb6 hb6.size hb7; have HV7 := Lib.hid (HV5.out.below hb7); have HX7 := Lib.hid hv7; clear hv7 hLA7)
    | (go_at_call 16; refine (refnth_calls l (0 : Int) _ _ S ((HL.out.below hb8).below ((Below.refl _ _).alloc (Nat.le_refl _) _)) hi0 hi1).mono ?_; rintro e w9 ⟨v9, rfl, hv9, hb9⟩; rw [HNV.out] at hv9; rw [HNV.out]; obtain ⟨hbd9, A9, c9, rfl, hc9, hLA9⟩ := hv9.eq; have hb10 := below_then ((Below.refl _ _).alloc (Nat.le_refl _) _) (by simp) hb9; have hk7 := blockB hb9 (heap_alloc_new w7 (.cells #[.int .i64 NV.1.kind, .int .i64 NV.1.num, .string NV.1.text, .slice A7 NV.1.items.length c7] 31)); obtain ⟨m0, m1, m2, m3⟩ := block4 hk7; have l7 := World.block_lt_of_cell? w9 _ m0; have hb11 := below_then hb8 hb8.size hb10; have HV9 := Lib.hid (HV7.out.below hb10); have HX9 := Lib.hid hv9; have HX79 := Lib.hid (HX7.out.below hb10); clear hv9 hLA9 hk7 hb9)
    | (go_at_call 17; refine (same_calls NV.1 NV.1 _ _ _ _ _ (HX79.out.below ((Below.refl _ _).alloc (Nat.le_refl _) _)) (HX9.out.below ((Below.refl _ _).alloc (Nat.le_refl _) _))).mono ?_; rintro e w11 ⟨rfl, hb12⟩; rw [eqV_self]; have hb13 := below_then ((Below.refl _ _).alloc (Nat.le_refl _) _) (by simp) hb12; have hb14 := below_then hb11 hb11.size hb13; have HV11 := Lib.hid (HV9.out.below hb13))
    | (go_at_call 18; refine (gone_calls l h b (0 : Int) _ _ HV11.out hi0 hi1).mono ?_; rintro e w12 ⟨v12, rfl, hv12, hb15⟩; have hb16 := below_then hb14 hb14.size hb15; have HG := Lib.hid hv12; clear hv12)
    | (go_at_call 19; refine (sames_calls (l.drop ((0 : Int)).toNat) (l.drop ((0 : Int)).toNat) _ _ _ _ S HG.out (show IsS w12 S (l.drop 0) _ by rw [List.drop_zero]; exact HL.out.below hb16)).mono ?_; rintro e w13 ⟨rfl, hb17⟩; rw [eqL_self]; have hb18 := below_then hb16 hb16.size hb17)
    | (go_at_call 13; refine (speaks_calls _ (tabs_below HT.out hb18)).mono ?_; rintro e w14 ⟨rfl, hb19⟩; have hb20 := below_then hb18 hb18.size hb19))
  go_ret
  exact ⟨rfl, hb20⟩
set_option maxRecDepth 100000 in
set_option maxHeartbeats 8000000 in
theorem rrbof_full (l : List V) (A : Option Addr) (cA : Nat) (w : World) (S : Nat → Prop) (hl : IsS w S l (.slice A l.length cA)) (hT : Lib.Utf8Tabs 0 1 w) (h0 : listE l = 0) (hc : cA = l.length) :
    Calls Tryd.prog 3 #[.slice A l.length cA, .int .i64 (l.length : Int)] w fun e w' => e = .returned (.bool true) ∧ Below w.heap.size w w' := by
  have HOF := Lib.hid (of_calls l _ w S hl hT)
  have HL := Lib.hid hl
  have HT := Lib.hid hT
  have HE := Lib.hid h0
  rw [h0] at HOF
  have hl65 : l.length ≤ 65536 := by
    unfold listE at h0
    split at h0
    · omega
    · omega
  have hcA : l.length ≤ cA := by
    obtain ⟨A', c', e, h1, _⟩ := hl
    simp only [Value.slice.injEq, true_and] at e
    omega
  subst hc
  have hi0 : -9223372036854775808 ≤ (l.length : Int) := by omega
  have hi1 : (l.length : Int) ≤ 9223372036854775807 := by omega
  obtain ⟨NV, hNV⟩ : ∃ q, nthV l (l.length : Int) = q := ⟨_, rfl⟩
  have HNV := Lib.hid hNV
  clear hT h0 hNV hl
  go_enter Tryd.func3, Tryd.ntmps3
  go_wp2_with (first
    | (go_at_call 11; refine HOF.out.mono ?_; rintro e w2 ⟨p, rfl, hp, hb2⟩; obtain ⟨h, b, rfl, hv⟩ := (hp.resolve_left (fun h => h.1 rfl)).2; have HV := Lib.hid hv; have HLS := Lib.hid (listed_calls l _ w2 S (HL.out.below hb2)); rw [HE.out] at HLS; clear hp hv)
    | (go_at_call 12; refine HLS.out.mono ?_; rintro e w3 ⟨rfl, hb3⟩; have hb4 := below_then hb2 hb2.size hb3; have HV3 := Lib.hid (HV.out.below hb3); have HSM := Lib.hid (vsame_calls l l h b _ w3 _ S HV3.out (HL.out.below hb4)); rw [eqL_self] at HSM)
    | (go_at_call 14; refine HSM.out.mono ?_; rintro e w5 ⟨rfl, hb5⟩; have hb6 := below_then hb4 hb4.size hb5; have HV5 := Lib.hid (HV3.out.below hb5); have HN := Lib.hid (nth_calls l h b (l.length : Int) w5 _ HV5.out hi0 hi1); rw [HNV.out] at HN)
    | (go_at_call 15; refine HN.out.mono ?_; rintro e w7 ⟨v7, rfl, hv7, hb7⟩; obtain ⟨hbd7, A7, c7, rfl, hc7, hLA7⟩ := hv7.eq; have hb8 := below_then hb6 hb6.size hb7; have HV7 := Lib.hid (HV5.out.below hb7); have HX7 := Lib.hid hv7; clear hv7 hLA7)
    | (go_at_call 16; refine (refnth_calls l (l.length : Int) _ _ S ((HL.out.below hb8).below ((Below.refl _ _).alloc (Nat.le_refl _) _)) hi0 hi1).mono ?_; rintro e w9 ⟨v9, rfl, hv9, hb9⟩; rw [HNV.out] at hv9; rw [HNV.out]; obtain ⟨hbd9, A9, c9, rfl, hc9, hLA9⟩ := hv9.eq; have hb10 := below_then ((Below.refl _ _).alloc (Nat.le_refl _) _) (by simp) hb9; have hk7 := blockB hb9 (heap_alloc_new w7 (.cells #[.int .i64 NV.1.kind, .int .i64 NV.1.num, .string NV.1.text, .slice A7 NV.1.items.length c7] 31)); obtain ⟨m0, m1, m2, m3⟩ := block4 hk7; have l7 := World.block_lt_of_cell? w9 _ m0; have hb11 := below_then hb8 hb8.size hb10; have HV9 := Lib.hid (HV7.out.below hb10); have HX9 := Lib.hid hv9; have HX79 := Lib.hid (HX7.out.below hb10); clear hv9 hLA9 hk7 hb9)
    | (go_at_call 17; refine (same_calls NV.1 NV.1 _ _ _ _ _ (HX79.out.below ((Below.refl _ _).alloc (Nat.le_refl _) _)) (HX9.out.below ((Below.refl _ _).alloc (Nat.le_refl _) _))).mono ?_; rintro e w11 ⟨rfl, hb12⟩; rw [eqV_self]; have hb13 := below_then ((Below.refl _ _).alloc (Nat.le_refl _) _) (by simp) hb12; have hb14 := below_then hb11 hb11.size hb13; have HV11 := Lib.hid (HV9.out.below hb13))
    | (go_at_call 18; refine (gone_calls l h b (l.length : Int) _ _ HV11.out hi0 hi1).mono ?_; rintro e w12 ⟨v12, rfl, hv12, hb15⟩; have hb16 := below_then hb14 hb14.size hb15; have HG := Lib.hid hv12; clear hv12)
    | (go_at_call 19; refine (sames_calls (l.drop ((l.length : Int)).toNat) (l.drop ((l.length : Int)).toNat) _ _ _ _ (fun _ => True) HG.out (IsS.drop_all (by omega))).mono ?_; rintro e w13 ⟨rfl, hb17⟩; rw [eqL_self]; have hb18 := below_then hb16 hb16.size hb17)
    | (go_at_call 13; refine (speaks_calls _ (tabs_below HT.out hb18)).mono ?_; rintro e w14 ⟨rfl, hb19⟩; have hb20 := below_then hb18 hb18.size hb19))
  go_ret
  exact ⟨rfl, hb20⟩
set_option maxRecDepth 100000 in
set_option maxHeartbeats 8000000 in
theorem rrbof_mid (l : List V) (A : Option Addr) (cA : Nat) (w : World) (S : Nat → Prop) (hl : IsS w S l (.slice A l.length cA)) (hT : Lib.Utf8Tabs 0 1 w) (h0 : listE l = 0) (F : Nat) (hF : 0 < F) (hFl : F ≤ l.length) (ad : Addr) (hA : A = some ad) (hc : cA ≠ F) :
    Calls Tryd.prog 3 #[.slice A l.length cA, .int .i64 (F : Int)] w fun e w' => e = .returned (.bool true) ∧ Below w.heap.size w w' := by
  have HOF := Lib.hid (of_calls l _ w S hl hT)
  have HL := Lib.hid hl
  have HT := Lib.hid hT
  have HE := Lib.hid h0
  rw [h0] at HOF
  have hl65 : l.length ≤ 65536 := by
    unfold listE at h0
    split at h0
    · omega
    · omega
  have hcA : l.length ≤ cA := by
    obtain ⟨A', c', e, h1, _⟩ := hl
    simp only [Value.slice.injEq, true_and] at e
    omega
  subst hA
  have hc2 : ¬ (F : Int) = (cA : Int) := by omega
  have hc3 : (F : Int) ≤ (l.length : Int) := by omega
  have hi0 : -9223372036854775808 ≤ (F : Int) := by omega
  have hi1 : (F : Int) ≤ 9223372036854775807 := by omega
  obtain ⟨NV, hNV⟩ : ∃ q, nthV l (F : Int) = q := ⟨_, rfl⟩
  have HNV := Lib.hid hNV
  clear hT h0 hNV hl
  go_enter Tryd.func3, Tryd.ntmps3
  go_wp2_with (first
    | (go_at_call 11; refine HOF.out.mono ?_; rintro e w2 ⟨p, rfl, hp, hb2⟩; obtain ⟨h, b, rfl, hv⟩ := (hp.resolve_left (fun h => h.1 rfl)).2; have HV := Lib.hid hv; have HLS := Lib.hid (listed_calls l _ w2 S (HL.out.below hb2)); rw [HE.out] at HLS; clear hp hv)
    | (go_at_call 12; refine HLS.out.mono ?_; rintro e w3 ⟨rfl, hb3⟩; have hb4 := below_then hb2 hb2.size hb3; have HV3 := Lib.hid (HV.out.below hb3); have HSM := Lib.hid (vsame_calls l l h b _ w3 _ S HV3.out (HL.out.below hb4)); rw [eqL_self] at HSM)
    | (go_at_call 14; refine HSM.out.mono ?_; rintro e w5 ⟨rfl, hb5⟩; have hb6 := below_then hb4 hb4.size hb5; have HV5 := Lib.hid (HV3.out.below hb5); have HN := Lib.hid (nth_calls l h b (F : Int) w5 _ HV5.out hi0 hi1); rw [HNV.out] at HN)
    | (go_at_call 15; refine HN.out.mono ?_; rintro e w7 ⟨v7, rfl, hv7, hb7⟩; obtain ⟨hbd7, A7, c7, rfl, hc7, hLA7⟩ := hv7.eq; have hb8 := below_then hb6 hb6.size hb7; have HV7 := Lib.hid (HV5.out.below hb7); have HX7 := Lib.hid hv7; clear hv7 hLA7)
    | (go_at_call 16; refine (refnth_calls l (F : Int) _ _ S ((HL.out.below hb8).below ((Below.refl _ _).alloc (Nat.le_refl _) _)) hi0 hi1).mono ?_; rintro e w9 ⟨v9, rfl, hv9, hb9⟩; rw [HNV.out] at hv9; rw [HNV.out]; obtain ⟨hbd9, A9, c9, rfl, hc9, hLA9⟩ := hv9.eq; have hb10 := below_then ((Below.refl _ _).alloc (Nat.le_refl _) _) (by simp) hb9; have hk7 := blockB hb9 (heap_alloc_new w7 (.cells #[.int .i64 NV.1.kind, .int .i64 NV.1.num, .string NV.1.text, .slice A7 NV.1.items.length c7] 31)); obtain ⟨m0, m1, m2, m3⟩ := block4 hk7; have l7 := World.block_lt_of_cell? w9 _ m0; have hb11 := below_then hb8 hb8.size hb10; have HV9 := Lib.hid (HV7.out.below hb10); have HX9 := Lib.hid hv9; have HX79 := Lib.hid (HX7.out.below hb10); clear hv9 hLA9 hk7 hb9)
    | (go_at_call 17; refine (same_calls NV.1 NV.1 _ _ _ _ _ (HX79.out.below ((Below.refl _ _).alloc (Nat.le_refl _) _)) (HX9.out.below ((Below.refl _ _).alloc (Nat.le_refl _) _))).mono ?_; rintro e w11 ⟨rfl, hb12⟩; rw [eqV_self]; have hb13 := below_then ((Below.refl _ _).alloc (Nat.le_refl _) _) (by simp) hb12; have hb14 := below_then hb11 hb11.size hb13; have HV11 := Lib.hid (HV9.out.below hb13))
    | (go_at_call 18; refine (gone_calls l h b (F : Int) _ _ HV11.out hi0 hi1).mono ?_; rintro e w12 ⟨v12, rfl, hv12, hb15⟩; have hb16 := below_then hb14 hb14.size hb15; have HG := Lib.hid hv12; clear hv12)
    | (go_at_call 19; refine (sames_calls (l.drop ((F : Int)).toNat) (l.drop ((F : Int)).toNat) _ _ _ _ S HG.out (by obtain ⟨A1, c1, e1, g1, g2, g3⟩ := HL.out.below hb16; simp only [Value.slice.injEq, true_and] at e1; obtain ⟨rfl, rfl⟩ := e1; exact ⟨_, _, by rw [List.length_drop]; rfl, by rw [List.length_drop]; omega, by rw [List.length_drop]; omega, g3.drop F⟩)).mono ?_; rintro e w13 ⟨rfl, hb17⟩; rw [eqL_self]; have hb18 := below_then hb16 hb16.size hb17)
    | (go_at_call 13; refine (speaks_calls _ (tabs_below HT.out hb18)).mono ?_; rintro e w14 ⟨rfl, hb19⟩; have hb20 := below_then hb18 hb18.size hb19))
  go_ret
  exact ⟨rfl, hb20⟩
set_option maxRecDepth 100000 in
set_option maxHeartbeats 8000000 in
theorem rrbof_over (l : List V) (A : Option Addr) (cA : Nat) (w : World) (S : Nat → Prop) (hl : IsS w S l (.slice A l.length cA)) (hT : Lib.Utf8Tabs 0 1 w) (h0 : listE l = 0) (F : Nat) (hFl : l.length < F) (hF : F ≤ 9223372036854775807) (hc : cA ≠ l.length) :
    Calls Tryd.prog 3 #[.slice A l.length cA, .int .i64 (F : Int)] w fun e w' => e = .returned (.bool true) ∧ Below w.heap.size w w' := by
  have HOF := Lib.hid (of_calls l _ w S hl hT)
  have HL := Lib.hid hl
  have HT := Lib.hid hT
  have HE := Lib.hid h0
  rw [h0] at HOF
  have hl65 : l.length ≤ 65536 := by
    unfold listE at h0
    split at h0
    · omega
    · omega
  have hcA : l.length ≤ cA := by
    obtain ⟨A', c', e, h1, _⟩ := hl
    simp only [Value.slice.injEq, true_and] at e
    omega
  have hc3 : ¬ (F : Int) ≤ (l.length : Int) := by omega
  have hc4 : (l.length : Int) < (F : Int) := by omega
  have hi0 : -9223372036854775808 ≤ (F : Int) := by omega
  have hi1 : (F : Int) ≤ 9223372036854775807 := by omega
  obtain ⟨NV, hNV⟩ : ∃ q, nthV l (F : Int) = q := ⟨_, rfl⟩
  have HNV := Lib.hid hNV
  clear hT h0 hNV hl
  go_enter Tryd.func3, Tryd.ntmps3
  go_wp2_with (first
    | (go_at_call 11; refine HOF.out.mono ?_; rintro e w2 ⟨p, rfl, hp, hb2⟩; obtain ⟨h, b, rfl, hv⟩ := (hp.resolve_left (fun h => h.1 rfl)).2; have HV := Lib.hid hv; have HLS := Lib.hid (listed_calls l _ w2 S (HL.out.below hb2)); rw [HE.out] at HLS; clear hp hv)
    | (go_at_call 12; refine HLS.out.mono ?_; rintro e w3 ⟨rfl, hb3⟩; have hb4 := below_then hb2 hb2.size hb3; have HV3 := Lib.hid (HV.out.below hb3); have HSM := Lib.hid (vsame_calls l l h b _ w3 _ S HV3.out (HL.out.below hb4)); rw [eqL_self] at HSM)
    | (go_at_call 14; refine HSM.out.mono ?_; rintro e w5 ⟨rfl, hb5⟩; have hb6 := below_then hb4 hb4.size hb5; have HV5 := Lib.hid (HV3.out.below hb5); have HN := Lib.hid (nth_calls l h b (F : Int) w5 _ HV5.out hi0 hi1); rw [HNV.out] at HN)
    | (go_at_call 15; refine HN.out.mono ?_; rintro e w7 ⟨v7, rfl, hv7, hb7⟩; obtain ⟨hbd7, A7, c7, rfl, hc7, hLA7⟩ := hv7.eq; have hb8 := below_then hb6 hb6.size hb7; have HV7 := Lib.hid (HV5.out.below hb7); have HX7 := Lib.hid hv7; clear hv7 hLA7)
    | (go_at_call 16; refine (refnth_calls l (F : Int) _ _ S ((HL.out.below hb8).below ((Below.refl _ _).alloc (Nat.le_refl _) _)) hi0 hi1).mono ?_; rintro e w9 ⟨v9, rfl, hv9, hb9⟩; rw [HNV.out] at hv9; rw [HNV.out]; obtain ⟨hbd9, A9, c9, rfl, hc9, hLA9⟩ := hv9.eq; have hb10 := below_then ((Below.refl _ _).alloc (Nat.le_refl _) _) (by simp) hb9; have hk7 := blockB hb9 (heap_alloc_new w7 (.cells #[.int .i64 NV.1.kind, .int .i64 NV.1.num, .string NV.1.text, .slice A7 NV.1.items.length c7] 31)); obtain ⟨m0, m1, m2, m3⟩ := block4 hk7; have l7 := World.block_lt_of_cell? w9 _ m0; have hb11 := below_then hb8 hb8.size hb10; have HV9 := Lib.hid (HV7.out.below hb10); have HX9 := Lib.hid hv9; have HX79 := Lib.hid (HX7.out.below hb10); clear hv9 hLA9 hk7 hb9)
    | (go_at_call 17; refine (same_calls NV.1 NV.1 _ _ _ _ _ (HX79.out.below ((Below.refl _ _).alloc (Nat.le_refl _) _)) (HX9.out.below ((Below.refl _ _).alloc (Nat.le_refl _) _))).mono ?_; rintro e w11 ⟨rfl, hb12⟩; rw [eqV_self]; have hb13 := below_then ((Below.refl _ _).alloc (Nat.le_refl _) _) (by simp) hb12; have hb14 := below_then hb11 hb11.size hb13; have HV11 := Lib.hid (HV9.out.below hb13))
    | (go_at_call 18; refine (gone_calls l h b (F : Int) _ _ HV11.out hi0 hi1).mono ?_; rintro e w12 ⟨v12, rfl, hv12, hb15⟩; have hb16 := below_then hb14 hb14.size hb15; have HG := Lib.hid hv12; clear hv12)
    | (go_at_call 19; refine (sames_calls (l.drop ((F : Int)).toNat) (l.drop ((F : Int)).toNat) _ _ _ _ (fun _ => True) HG.out (IsS.drop_all (by omega))).mono ?_; rintro e w13 ⟨rfl, hb17⟩; rw [eqL_self]; have hb18 := below_then hb16 hb16.size hb17)
    | (go_at_call 13; refine (speaks_calls _ (tabs_below HT.out hb18)).mono ?_; rintro e w14 ⟨rfl, hb19⟩; have hb20 := below_then hb18 hb18.size hb19))
  go_ret
  exact ⟨rfl, hb20⟩
set_option maxRecDepth 100000 in
set_option maxHeartbeats 8000000 in
theorem rrbof_past (l : List V) (A : Option Addr) (cA : Nat) (w : World) (S : Nat → Prop) (hl : IsS w S l (.slice A l.length cA)) (hT : Lib.Utf8Tabs 0 1 w) (h0 : listE l = 0) (F : Nat) (hFl : l.length < F) (hF : F ≤ 9223372036854775807) (hc : cA = l.length) :
    Calls Tryd.prog 3 #[.slice A l.length cA, .int .i64 (F : Int)] w fun e w' => e = .returned (.bool true) ∧ Below w.heap.size w w' := by
  have HOF := Lib.hid (of_calls l _ w S hl hT)
  have HL := Lib.hid hl
  have HT := Lib.hid hT
  have HE := Lib.hid h0
  rw [h0] at HOF
  have hl65 : l.length ≤ 65536 := by
    unfold listE at h0
    split at h0
    · omega
    · omega
  have hcA : l.length ≤ cA := by
    obtain ⟨A', c', e, h1, _⟩ := hl
    simp only [Value.slice.injEq, true_and] at e
    omega
  subst hc
  have hc3 : ¬ (F : Int) ≤ (l.length : Int) := by omega
  have hc4 : (l.length : Int) < (F : Int) := by omega
  have hi0 : -9223372036854775808 ≤ (F : Int) := by omega
  have hi1 : (F : Int) ≤ 9223372036854775807 := by omega
  obtain ⟨NV, hNV⟩ : ∃ q, nthV l (F : Int) = q := ⟨_, rfl⟩
  have HNV := Lib.hid hNV
  clear hT h0 hNV hl
  go_enter Tryd.func3, Tryd.ntmps3
  go_wp2_with (first
    | (go_at_call 11; refine HOF.out.mono ?_; rintro e w2 ⟨p, rfl, hp, hb2⟩; obtain ⟨h, b, rfl, hv⟩ := (hp.resolve_left (fun h => h.1 rfl)).2; have HV := Lib.hid hv; have HLS := Lib.hid (listed_calls l _ w2 S (HL.out.below hb2)); rw [HE.out] at HLS; clear hp hv)
    | (go_at_call 12; refine HLS.out.mono ?_; rintro e w3 ⟨rfl, hb3⟩; have hb4 := below_then hb2 hb2.size hb3; have HV3 := Lib.hid (HV.out.below hb3); have HSM := Lib.hid (vsame_calls l l h b _ w3 _ S HV3.out (HL.out.below hb4)); rw [eqL_self] at HSM)
    | (go_at_call 14; refine HSM.out.mono ?_; rintro e w5 ⟨rfl, hb5⟩; have hb6 := below_then hb4 hb4.size hb5; have HV5 := Lib.hid (HV3.out.below hb5); have HN := Lib.hid (nth_calls l h b (F : Int) w5 _ HV5.out hi0 hi1); rw [HNV.out] at HN)
    | (go_at_call 15; refine HN.out.mono ?_; rintro e w7 ⟨v7, rfl, hv7, hb7⟩; obtain ⟨hbd7, A7, c7, rfl, hc7, hLA7⟩ := hv7.eq; have hb8 := below_then hb6 hb6.size hb7; have HV7 := Lib.hid (HV5.out.below hb7); have HX7 := Lib.hid hv7; clear hv7 hLA7)
    | (go_at_call 16; refine (refnth_calls l (F : Int) _ _ S ((HL.out.below hb8).below ((Below.refl _ _).alloc (Nat.le_refl _) _)) hi0 hi1).mono ?_; rintro e w9 ⟨v9, rfl, hv9, hb9⟩; rw [HNV.out] at hv9; rw [HNV.out]; obtain ⟨hbd9, A9, c9, rfl, hc9, hLA9⟩ := hv9.eq; have hb10 := below_then ((Below.refl _ _).alloc (Nat.le_refl _) _) (by simp) hb9; have hk7 := blockB hb9 (heap_alloc_new w7 (.cells #[.int .i64 NV.1.kind, .int .i64 NV.1.num, .string NV.1.text, .slice A7 NV.1.items.length c7] 31)); obtain ⟨m0, m1, m2, m3⟩ := block4 hk7; have l7 := World.block_lt_of_cell? w9 _ m0; have hb11 := below_then hb8 hb8.size hb10; have HV9 := Lib.hid (HV7.out.below hb10); have HX9 := Lib.hid hv9; have HX79 := Lib.hid (HX7.out.below hb10); clear hv9 hLA9 hk7 hb9)
    | (go_at_call 17; refine (same_calls NV.1 NV.1 _ _ _ _ _ (HX79.out.below ((Below.refl _ _).alloc (Nat.le_refl _) _)) (HX9.out.below ((Below.refl _ _).alloc (Nat.le_refl _) _))).mono ?_; rintro e w11 ⟨rfl, hb12⟩; rw [eqV_self]; have hb13 := below_then ((Below.refl _ _).alloc (Nat.le_refl _) _) (by simp) hb12; have hb14 := below_then hb11 hb11.size hb13; have HV11 := Lib.hid (HV9.out.below hb13))
    | (go_at_call 18; refine (gone_calls l h b (F : Int) _ _ HV11.out hi0 hi1).mono ?_; rintro e w12 ⟨v12, rfl, hv12, hb15⟩; have hb16 := below_then hb14 hb14.size hb15; have HG := Lib.hid hv12; clear hv12)
    | (go_at_call 19; refine (sames_calls (l.drop ((F : Int)).toNat) (l.drop ((F : Int)).toNat) _ _ _ _ (fun _ => True) HG.out (IsS.drop_all (by omega))).mono ?_; rintro e w13 ⟨rfl, hb17⟩; rw [eqL_self]; have hb18 := below_then hb16 hb16.size hb17)
    | (go_at_call 13; refine (speaks_calls _ (tabs_below HT.out hb18)).mono ?_; rintro e w14 ⟨rfl, hb19⟩; have hb20 := below_then hb18 hb18.size hb19))
  go_ret
  exact ⟨rfl, hb20⟩
/-- RrbOf, whatever the list and the place. -/
theorem rrbof_calls (l : List V) (i : Int) (A : Option Addr) (cA : Nat) (w : World) (S : Nat → Prop) (hl : IsS w S l (.slice A l.length cA)) (hn : A = none → cA = 0) (hT : Lib.Utf8Tabs 0 1 w) (hi0 : -9223372036854775808 ≤ i) (hi1 : i ≤ 9223372036854775807) :
    Calls Tryd.prog 3 #[.slice A l.length cA, .int .i64 i] w fun e w' => e = .returned (.bool true) ∧ Below w.heap.size w w' := by
  by_cases h0 : listE l = 0
  · have hcA : l.length ≤ cA := by
      obtain ⟨A', c', e, h1, _⟩ := hl
      simp only [Value.slice.injEq, true_and] at e
      omega
    by_cases hneg : i < 0
    · exact rrbof_neg l i A cA w S hl hT h0 hi0 hi1 hneg
    · obtain ⟨F, rfl⟩ : ∃ F : Nat, i = (F : Int) := ⟨i.toNat, by omega⟩
      by_cases hF : F ≤ l.length
      · by_cases hc : cA = F
        · have h1 : cA = l.length := by omega
          obtain rfl : F = l.length := by omega
          exact rrbof_full l A cA w S hl hT h0 h1
        · by_cases hz : F = 0
          · subst hz
            exact rrbof_zero l A cA w S hl hT h0 (by omega)
          · cases A with
            | none => have := hn rfl; omega
            | some ad => exact rrbof_mid l (some ad) cA w S hl hT h0 F (by omega) hF ad rfl hc
      · by_cases hc : cA = l.length
        · exact rrbof_past l A cA w S hl hT h0 F (by omega) (by omega) hc
        · exact rrbof_over l A cA w S hl hT h0 F (by omega) (by omega) hc
  · exact rrbof_bad l i _ w S hl hT h0
end Go.Proofs.YtaeldfnihocljaaDoor
