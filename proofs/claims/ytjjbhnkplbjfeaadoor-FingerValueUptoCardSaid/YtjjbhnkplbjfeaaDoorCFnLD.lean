/- The law FingerValue. -/
import Derived.Test.YtjjbhnkplbjfeaaDoorCFnZ

set_option linter.unusedVariables false
set_option linter.unusedSimpArgs false
namespace Go.Proofs.YtjjbhnkplbjfeaaDoor
open Go.RowKit
attribute [local go_sem] lt_succ_of

theorem nil_is (w : World) : IsD w (fun _ => True) [] none := ⟨by simp, .inl ⟨rfl, rfl⟩⟩
theorem nil_height (w : World) : Calls Tryd.prog 32 #[.pointer none] w fun e w' => e = .returned (.int .i64 0) ∧ w = w' := by
  obtain ⟨n, ⟨h1, _⟩, hc⟩ := dheight_calls [] none w _ (nil_is w)
  obtain rfl := h1.2 rfl
  exact hc
theorem nil_pop_front (w : World) : Calls Tryd.prog 24 #[.pointer none] w fun e w' => ∃ A c, e = .returned (.tuple #[.pointer none, .agg #[.int .i64 0, .int .i64 0, .string ⟨#[]⟩, .slice A 0 c], .int .i64 6]) ∧ Below w.heap.size w w' := by
  refine (dpopfirst_calls [] none w _ (nil_is w)).mono ?_
  rintro e w' ⟨p, v, rfl, hv, hp, hb⟩
  obtain rfl := (hp.resolve_right (fun h => h.1 rfl)).2
  obtain ⟨_, A, c, rfl, _⟩ := (show IsV w' _ V.zero v from hv).eq
  exact ⟨A, c, rfl, hb⟩
theorem nil_pop_back (w : World) : Calls Tryd.prog 25 #[.pointer none] w fun e w' => ∃ A c, e = .returned (.tuple #[.pointer none, .agg #[.int .i64 0, .int .i64 0, .string ⟨#[]⟩, .slice A 0 c], .int .i64 6]) ∧ Below w.heap.size w w' := by
  refine (dpoplast_calls [] none w _ (nil_is w)).mono ?_
  rintro e w' ⟨p, v, rfl, hv, hp, hb⟩
  obtain rfl := (hp.resolve_right (fun h => h.1 rfl)).2
  obtain ⟨_, A, c, rfl, _⟩ := (show IsV w' _ V.zero v from hv).eq
  exact ⟨A, c, rfl, hb⟩
theorem nil_items (w : World) : Calls Tryd.prog 37 #[.pointer none] w fun e w' => ∃ A c, e = .returned (.slice A 0 c) ∧ Below w.heap.size w w' := by
  refine (items_calls [] none w _ (nil_is w)).mono ?_
  rintro e w' ⟨v, rfl, ⟨A, c, rfl, _⟩, hb⟩
  exact ⟨A, c, rfl, hb⟩
set_option maxRecDepth 100000 in
set_option maxHeartbeats 8000000 in
theorem fingervalue_calls (l : List V) (A : Option Addr) (cA : Nat) (w : World) (S : Nat → Prop) (hl : IsS w S l (.slice A l.length cA)) (hT : Lib.Utf8Tabs 1 2 w) :
    Calls Tryd.prog 6 #[.slice A l.length cA] w fun e w' => e = .returned (.bool true) ∧ Below w.heap.size w w' := by
  have HOF := Lib.hid (dof_calls l _ w S hl hT)
  have HL := Lib.hid hl
  have HT := Lib.hid hT
  by_cases h0 : listE l = 0
  · rw [h0] at HOF
    obtain ⟨L, hL⟩ : ∃ L, listV l = L := ⟨_, rfl⟩
    have HLL := Lib.hid hL
    clear hl hT h0 hL
    go_enter Tryd.func6, Tryd.ntmps6
    go_wp2_with (first
      | (go_at_call 13; refine HOF.out.mono ?_; rintro e w2 ⟨p, rfl, hp, hb2⟩; obtain ⟨b, rfl, hv⟩ := (hp.resolve_left (fun h => h.1 rfl)).2; have HP := dvalue_calls l _ w2 _ hv.is (tabs_below HT.out hb2); rw [HLL.out] at HP; have HV := Lib.hid HP; clear hp hv HOF HP)
      | (go_at_call 35; refine HV.out.mono ?_; rintro e w3 ⟨v3, rfl, hv3, hb3'⟩; obtain ⟨_, A3, c3, rfl, _, _⟩ := hv3.eq; have hb3 := below_then hb2 hb2.size hb3'; have hbA := alloc_of (w := w3) (Below.refl _ _) (.cells #[.int .i64 L.1.kind, .int .i64 L.1.num, .string L.1.text, .slice A3 L.1.items.length c3] 33); have HV3 := Lib.hid (hv3.below hbA); have hb4 := below_then hb3 hb3.size hbA; have HK3 := Lib.hid (heap_alloc_new w3 (.cells #[.int .i64 L.1.kind, .int .i64 L.1.num, .string L.1.text, .slice A3 L.1.items.length c3] 33)); have HP := reflist_calls l _ _ _ (HL.out.below hb4); rw [HLL.out] at HP; have HRL := Lib.hid HP; clear hv3 HV HP)
      | (go_at_call 36; refine HRL.out.mono ?_; rintro e w5 ⟨v5, rfl, hv5, hb5'⟩; obtain ⟨_, A5, c5, rfl, _, _⟩ := hv5.eq; have hb5 := below_then hb4 hb4.size hb5'; have hbB := alloc_of (w := w5) (Below.refl _ _) (.cells #[.int .i64 L.1.kind, .int .i64 L.1.num, .string L.1.text, .slice A5 L.1.items.length c5] 33); have hb35 := below_then hb5' hb5'.size hbB; have HV5 := Lib.hid (hv5.below hbB); have HV35 := Lib.hid (HV3.out.below hb35); have HK35 := Lib.hid (blockB hb35 HK3.out); have HK5 := Lib.hid (heap_alloc_new w5 (.cells #[.int .i64 L.1.kind, .int .i64 L.1.num, .string L.1.text, .slice A5 L.1.items.length c5] 33)); have hb6 := below_then hb5 hb5.size hbB; clear hv5 HV3 HRL))
    go_wp2_with (first
      | (go_at_call 24; refine (nil_pop_front _).mono ?_; rintro e w7 ⟨A7, c7, rfl, hb7'⟩; have hbC := alloc_of (w := w7) (Below.refl _ _) (.cells #[.int .i64 0, .int .i64 0, .string ⟨#[]⟩, .slice A7 0 c7] 33); have hb57 := below_then hb7' hb7'.size hbC; have hb7 := below_then hb6 hb6.size hb57)
      | (go_at_call 25; refine (nil_pop_back _).mono ?_; rintro e w8 ⟨A8, c8, rfl, hb8'⟩; have hbD := alloc_of (w := w8) (Below.refl _ _) (.cells #[.int .i64 0, .int .i64 0, .string ⟨#[]⟩, .slice A8 0 c8] 33); have hb78 := below_then hb8' hb8'.size hbD; have hb8 := below_then hb7 hb7.size hb78; have hb58' := below_then hb57 hb57.size hb8'; have hb58 := below_then hb57 hb57.size hb78; obtain ⟨f0, f1, f2, f3⟩ := block4 (blockB hb58' HK35.out); have lf := World.block_lt_of_cell? w8 _ f0; obtain ⟨g0, g1, g2, g3⟩ := block4 (blockB hb58' HK5.out); have lg := World.block_lt_of_cell? w8 _ g0)
      | (go_at_call 21; refine (same_calls L.1 L.1 _ _ _ _ _ (HV35.out.below hb58) (HV5.out.below hb58)).mono ?_; rintro e w9 ⟨rfl, hb9'⟩; rw [eqV_self]; have hb9 := below_then hb8 hb8.size hb9'))
    go_wp2_with (first
      | (go_at_call 33; refine (len_calls [] none _ _ (nil_is _)).mono ?_; rintro e w10 ⟨rfl, rfl⟩)
      | (go_at_call 32; refine (nil_height _).mono ?_; rintro e w11 ⟨rfl, rfl⟩)
      | (go_at_call 37; refine (nil_items _).mono ?_; rintro e w12 ⟨A12, c12, rfl, hb12'⟩; have hb12 := below_then hb9 hb9.size hb12')
      | (go_at_call 15; refine (fspeaks_calls _ (tabs_below HT.out hb12)).mono ?_; rintro e w13 ⟨rfl, hb13'⟩; have hb13 := below_then hb12 hb12.size hb13'))
    go_ret
    exact ⟨rfl, hb13⟩
  · have h1 : (listE l != 0) = true := by simpa using h0
    have h2 : (listE l == 0) = false := by simpa using h0
    have HN := Lib.hid h0
    obtain ⟨E, hE⟩ : ∃ E, listE l = E := ⟨_, rfl⟩
    rw [hE] at HOF HN h1 h2 h0
    clear hl hT hE
    go_enter Tryd.func6, Tryd.ntmps6
    go_wp2_with (first
      | (go_at_call 13; refine HOF.out.mono ?_; rintro e w2 ⟨p, rfl, hp, hb2⟩; obtain rfl := (hp.resolve_right (fun h => HN.out h.1)).2; clear hp)
      | (go_at_call 15; refine (fspeaks_calls _ (tabs_below HT.out hb2)).mono ?_; rintro e w5 ⟨rfl, hb5⟩; have hb6 := below_then hb2 hb2.size hb5))
    go_ret
    exact ⟨rfl, hb6⟩
end Go.Proofs.YtjjbhnkplbjfeaaDoor
