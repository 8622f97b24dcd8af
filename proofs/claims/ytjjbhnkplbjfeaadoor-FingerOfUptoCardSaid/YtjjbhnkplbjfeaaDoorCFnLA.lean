/- The law FingerOf. -/
import Derived.Test.YtjjbhnkplbjfeaaDoorCFnZ

set_option linter.unusedVariables false
set_option linter.unusedSimpArgs false
namespace Go.Proofs.YtjjbhnkplbjfeaaDoor
open Go.RowKit
attribute [local go_sem] lt_succ_of

set_option maxRecDepth 100000 in
set_option maxHeartbeats 8000000 in
theorem fingerof_calls (l : List V) (i : Int) (A : Option Addr) (cA : Nat) (w : World) (S : Nat → Prop) (hl : IsS w S l (.slice A l.length cA)) (hT : Lib.Utf8Tabs 1 2 w) (hi0 : -9223372036854775808 ≤ i) (hi1 : i ≤ 9223372036854775807) :
    Calls Tryd.prog 3 #[.slice A l.length cA, .int .i64 i] w fun e w' => e = .returned (.bool true) ∧ Below w.heap.size w w' := by
  have HOF := Lib.hid (dof_calls l _ w S hl hT)
  have HL := Lib.hid hl
  have HT := Lib.hid hT
  by_cases h0 : listE l = 0
  · have HE := Lib.hid h0
    rw [h0] at HOF
    have hl65 : l.length ≤ 65536 := by
      unfold listE at h0
      split at h0
      · omega
      · omega
    have b1 : (l.length : Int) + 1 ≤ 65537 := by omega
    have HGN : Hid (∀ W b S1, IsE W S1 l b → Calls Tryd.prog 18 #[.pointer (some ⟨b, 0, none⟩), .int .i64 ((l.length : Int) + 1)] W fun e w' => ∃ v, e = .returned v ∧ IsS w' (fun b => W.heap.size ≤ b) l v ∧ Below W.heap.size W w') := Lib.hid fun W b S1 h => by
      have := gone_calls l _ (l.length + 1) W S1 h.is (by omega) (by omega)
      rw [List.take_of_length_le (by omega)] at this
      exact this
    obtain ⟨NV, hNV⟩ : ∃ q, nthV l i = q := ⟨_, rfl⟩
    have HNV := Lib.hid hNV
    by_cases hl1 : 1 < l.length
    · have e1 : (1 : Int) < (l.length : Int) := by omega
      have HG1 : Hid (∀ W b S1, IsE W S1 l b → Calls Tryd.prog 18 #[.pointer (some ⟨b, 0, none⟩), .int .i64 1] W fun e w' => ∃ A c, e = .returned (.slice A 1 c) ∧ Below W.heap.size W w') := Lib.hid fun W b S1 h => by
        refine (gone_calls l _ 1 W S1 h.is (by omega) (by omega)).mono ?_
        rintro e w' ⟨v, rfl, ⟨A1, c1, rfl, _⟩, hb⟩
        exact ⟨A1, c1, by rw [List.length_take, Nat.min_eq_left (by omega)], hb⟩
      clear hT h0 hNV hl hl1 hl65
      go_enter Tryd.func3, Tryd.ntmps3
      go_wp2_with (first
        | (go_at_call 13; refine HOF.out.mono ?_; rintro e w2 ⟨p, rfl, hp, hb2⟩; obtain ⟨b, rfl, hv⟩ := (hp.resolve_left (fun h => h.1 rfl)).2; have HV := Lib.hid hv; have HLS := Lib.hid (listed_calls l _ w2 S (HL.out.below hb2)); rw [HE.out] at HLS; clear hp hv)
        | (go_at_call 14; refine HLS.out.mono ?_; rintro e w3 ⟨rfl, hb3⟩; have hb4 := below_then hb2 hb2.size hb3; have HV3 := Lib.hid (HV.out.below hb3); have HSM := Lib.hid (dsame_calls l b _ w3 _ S HV3.out (HL.out.below hb4)); clear HV HLS HOF))
      go_wp2_with (first
        | (go_at_call 16; refine HSM.out.mono ?_; rintro e w5 ⟨rfl, hb5⟩; have hb6 := below_then hb4 hb4.size hb5; have HV5 := Lib.hid (HV3.out.below hb5); clear HSM HV3)
        | (go_at_call 18; refine (HGN.out w5 _ _ HV5.out).mono ?_; rintro e w6 ⟨v6, rfl, hv6, hb7'⟩; have hb7 := below_then hb6 hb6.size hb7'; have HV6 := Lib.hid (HV5.out.below hb7'); have HC := Lib.hid (sames_calls l l _ _ w6 _ _ hv6 (HL.out.below hb7)); clear hv6 HV5 HGN)
        | (go_at_call 17; refine HC.out.mono ?_; rintro e w7 ⟨rfl, hb8'⟩; rw [eqL_self]; have hb8 := below_then hb7 hb7.size hb8'; have HV7 := Lib.hid (HV6.out.below hb8'); clear HC HV6))
      go_wp2_with (first
        | (go_at_call 18; refine (HG1.out w7 _ _ HV7.out).mono ?_; rintro e w8 ⟨A8, c8, rfl, hb9'⟩; have hb9 := below_then hb8 hb8.size hb9'; have HV8 := Lib.hid (HV7.out.below hb9'); have HAT := dat_calls l _ i w8 _ HV8.out.is hi0 hi1; rw [HNV.out] at HAT; have HAT := Lib.hid HAT; clear HV7 HG1)
        | (go_at_call 19; refine HAT.out.mono ?_; rintro e w9 ⟨v9, rfl, hv9, hb10'⟩; obtain ⟨hbd9, A9, c9, rfl, hc9, hLA9⟩ := hv9.eq; have hb10 := below_then hb9 hb9.size hb10'; have HX9 := Lib.hid hv9; clear hv9 hLA9)
        | (go_at_call 20; refine (refnth_calls l i _ _ S ((HL.out.below hb10).below ((Below.refl _ _).alloc (Nat.le_refl _) _)) hi0 hi1).mono ?_; rintro e w10 ⟨v10, rfl, hv10, hb11'⟩; rw [HNV.out] at hv10; rw [HNV.out]; obtain ⟨hbd10, A10, c10, rfl, hc10, hLA10⟩ := hv10.eq; have hb11 := below_then ((Below.refl _ _).alloc (Nat.le_refl _) _) (by simp) hb11'; have hk7 := blockB hb11' (heap_alloc_new w9 (.cells #[.int .i64 NV.1.kind, .int .i64 NV.1.num, .string NV.1.text, .slice A9 NV.1.items.length c9] 33)); obtain ⟨m0, m1, m2, m3⟩ := block4 hk7; have l7 := World.block_lt_of_cell? w10 _ m0; have hb12 := below_then hb10 hb10.size hb11; have HX10 := Lib.hid hv10; have HX910 := Lib.hid (HX9.out.below hb11); clear hv10 hLA10 hk7 hb11')
        | (go_at_call 21; refine (same_calls NV.1 NV.1 _ _ _ _ _ (HX910.out.below ((Below.refl _ _).alloc (Nat.le_refl _) _)) (HX10.out.below ((Below.refl _ _).alloc (Nat.le_refl _) _))).mono ?_; rintro e w11 ⟨rfl, hb13'⟩; rw [eqV_self]; have hb13 := below_then ((Below.refl _ _).alloc (Nat.le_refl _) _) (by simp) hb13'; have hb14 := below_then hb12 hb12.size hb13)
        | (go_at_call 15; refine (fspeaks_calls _ (tabs_below HT.out hb14)).mono ?_; rintro e w12 ⟨rfl, hb15'⟩; have hb15 := below_then hb14 hb14.size hb15'))
      go_ret
      exact ⟨rfl, hb15⟩
    · have e1 : ¬ ((1 : Int) < (l.length : Int)) := by omega
      have e2 : decide ((1 : Int) < (l.length : Int)) = false := decide_eq_false e1
      clear hT h0 hNV hl hl1 hl65
      go_enter Tryd.func3, Tryd.ntmps3
      go_wp2_with (first
        | (go_at_call 13; refine HOF.out.mono ?_; rintro e w2 ⟨p, rfl, hp, hb2⟩; obtain ⟨b, rfl, hv⟩ := (hp.resolve_left (fun h => h.1 rfl)).2; have HV := Lib.hid hv; have HLS := Lib.hid (listed_calls l _ w2 S (HL.out.below hb2)); rw [HE.out] at HLS; clear hp hv)
        | (go_at_call 14; refine HLS.out.mono ?_; rintro e w3 ⟨rfl, hb3⟩; have hb4 := below_then hb2 hb2.size hb3; have HV3 := Lib.hid (HV.out.below hb3); have HSM := Lib.hid (dsame_calls l b _ w3 _ S HV3.out (HL.out.below hb4)); clear HV HLS HOF))
      go_wp2_with (first
        | (go_at_call 16; refine HSM.out.mono ?_; rintro e w5 ⟨rfl, hb5⟩; have hb6 := below_then hb4 hb4.size hb5; have HV5 := Lib.hid (HV3.out.below hb5); clear HSM HV3)
        | (go_at_call 18; refine (HGN.out w5 _ _ HV5.out).mono ?_; rintro e w6 ⟨v6, rfl, hv6, hb7'⟩; have hb7 := below_then hb6 hb6.size hb7'; have HV6 := Lib.hid (HV5.out.below hb7'); have HC := Lib.hid (sames_calls l l _ _ w6 _ _ hv6 (HL.out.below hb7)); clear hv6 HV5 HGN)
        | (go_at_call 17; refine HC.out.mono ?_; rintro e w7 ⟨rfl, hb8'⟩; rw [eqL_self]; have hb9 := below_then hb7 hb7.size hb8'; have HV8 := Lib.hid (HV6.out.below hb8'); have HAT := dat_calls l _ i w7 _ HV8.out.is hi0 hi1; rw [HNV.out] at HAT; have HAT := Lib.hid HAT; clear HC HV6))
      go_wp2_with (first
        | (go_at_call 19; refine HAT.out.mono ?_; rintro e w9 ⟨v9, rfl, hv9, hb10'⟩; obtain ⟨hbd9, A9, c9, rfl, hc9, hLA9⟩ := hv9.eq; have hb10 := below_then hb9 hb9.size hb10'; have HX9 := Lib.hid hv9; clear hv9 hLA9)
        | (go_at_call 20; refine (refnth_calls l i _ _ S ((HL.out.below hb10).below ((Below.refl _ _).alloc (Nat.le_refl _) _)) hi0 hi1).mono ?_; rintro e w10 ⟨v10, rfl, hv10, hb11'⟩; rw [HNV.out] at hv10; rw [HNV.out]; obtain ⟨hbd10, A10, c10, rfl, hc10, hLA10⟩ := hv10.eq; have hb11 := below_then ((Below.refl _ _).alloc (Nat.le_refl _) _) (by simp) hb11'; have hk7 := blockB hb11' (heap_alloc_new w9 (.cells #[.int .i64 NV.1.kind, .int .i64 NV.1.num, .string NV.1.text, .slice A9 NV.1.items.length c9] 33)); obtain ⟨m0, m1, m2, m3⟩ := block4 hk7; have l7 := World.block_lt_of_cell? w10 _ m0; have hb12 := below_then hb10 hb10.size hb11; have HX10 := Lib.hid hv10; have HX910 := Lib.hid (HX9.out.below hb11); clear hv10 hLA10 hk7 hb11')
        | (go_at_call 21; refine (same_calls NV.1 NV.1 _ _ _ _ _ (HX910.out.below ((Below.refl _ _).alloc (Nat.le_refl _) _)) (HX10.out.below ((Below.refl _ _).alloc (Nat.le_refl _) _))).mono ?_; rintro e w11 ⟨rfl, hb13'⟩; rw [eqV_self]; have hb13 := below_then ((Below.refl _ _).alloc (Nat.le_refl _) _) (by simp) hb13'; have hb14 := below_then hb12 hb12.size hb13)
        | (go_at_call 15; refine (fspeaks_calls _ (tabs_below HT.out hb14)).mono ?_; rintro e w12 ⟨rfl, hb15'⟩; have hb15 := below_then hb14 hb14.size hb15'))
      go_ret
      exact ⟨rfl, hb15⟩
  · have h1 : (listE l != 0) = true := by simpa using h0
    have h2 : (listE l == 0) = false := by simpa using h0
    have h3 : (listE l != listE l) = false := by simp
    have HN := Lib.hid h0
    obtain ⟨E, hE⟩ : ∃ E, listE l = E := ⟨_, rfl⟩
    have HE := Lib.hid hE
    rw [hE] at HOF HN h1 h2 h0 h3
    clear hl hT hE
    go_enter Tryd.func3, Tryd.ntmps3
    go_wp2_with (first
      | (go_at_call 13; refine HOF.out.mono ?_; rintro e w2 ⟨p, rfl, hp, hb2⟩; obtain rfl := (hp.resolve_right (fun h => HN.out h.1)).2; have HLS := Lib.hid (listed_calls l _ w2 S (HL.out.below hb2)); rw [HE.out] at HLS; clear hp)
      | (go_at_call 14; refine HLS.out.mono ?_; rintro e w3 ⟨rfl, hb3⟩; have hb4 := below_then hb2 hb2.size hb3)
      | (go_at_call 15; refine (fspeaks_calls _ (tabs_below HT.out hb4)).mono ?_; rintro e w5 ⟨rfl, hb5⟩; have hb6 := below_then hb4 hb4.size hb5))
    go_ret
    exact ⟨rfl, hb6⟩
end Go.Proofs.YtjjbhnkplbjfeaaDoor
