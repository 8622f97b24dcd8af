/- Transients: the little program that each law runs. -/
import Derived.Test.YtaeldfnihocljaaDoorCTvI
import Derived.Test.YtaeldfnihocljaaDoorCTvA
import Derived.Test.YtaeldfnihocljaaDoorCRrbO

set_option linter.unusedVariables false
set_option linter.unusedSimpArgs false
namespace Go.Proofs.YtaeldfnihocljaaDoor
open Go.RowKit
attribute [local go_sem] lt_succ_of

theorem isI2 {w : World} {b : Nat} {a0 a1 : Int} {t : TypeId} (h : w.heap[b]? = some (.cells #[.int .i64 a0, .int .i64 a1] t (0, 0))) (h0 : -9223372036854775808 ≤ a0 ∧ a0 ≤ 9223372036854775807) (h1 : -9223372036854775808 ≤ a1 ∧ a1 ≤ 9223372036854775807) : IsI w [a0, a1] (.slice (some ⟨b, 0, none⟩) 2 2) := by
  refine ⟨some ⟨b, 0, none⟩, 2, rfl, by simp, by simp, fun i hi => ⟨_, rfl, ?_⟩, fun n hn => ?_⟩
  · rw [plus0]
    match i, hi with
    | 0, _ => simp [World.cell?, h, numAt]
    | 1, _ => simp [World.cell?, h, numAt]
  · simp at hn
    rcases hn with rfl | rfl <;> omega
theorem isI3 {w : World} {b : Nat} {a0 a1 a2 : Int} {t : TypeId} (h : w.heap[b]? = some (.cells #[.int .i64 a0, .int .i64 a1, .int .i64 a2] t (0, 0))) (h0 : -9223372036854775808 ≤ a0 ∧ a0 ≤ 9223372036854775807) (h1 : -9223372036854775808 ≤ a1 ∧ a1 ≤ 9223372036854775807) (h2 : -9223372036854775808 ≤ a2 ∧ a2 ≤ 9223372036854775807) : IsI w [a0, a1, a2] (.slice (some ⟨b, 0, none⟩) 3 3) := by
  refine ⟨some ⟨b, 0, none⟩, 3, rfl, by simp, by simp, fun i hi => ⟨_, rfl, ?_⟩, fun n hn => ?_⟩
  · rw [plus0]
    match i, hi with
    | 0, _ => simp [World.cell?, h, numAt]
    | 1, _ => simp [World.cell?, h, numAt]
    | 2, _ => simp [World.cell?, h, numAt]
  · simp at hn
    rcases hn with rfl | rfl | rfl <;> omega
/-- A vector that a transient does not own stays as it is, whatever befalls the transient. -/
theorem vec_kept {w w' : World} {x x' : Tr} {l : List V} {h b : Nat} (hr : IsR w (fun b => ¬ x.own b) l h b) (hb : But x.own w w') (ho : ∀ b, x'.own b → x.own b ∨ w.heap.size ≤ b) : IsR w' (fun b => ¬ x'.own b) l h b :=
  hr.keep fun b hlt hs => ⟨fun h => (ho b h).elim hs (by omega), hb.block b hlt hs⟩
theorem below_but {w w6 w7 : World} {M : Nat → Prop} (h : Below w.heap.size w w6) (k : But M w6 w7) (hm : ∀ b, M b → w.heap.size ≤ b) : Below w.heap.size w w7 :=
  h.trans (k.below h.size hm)
theorem begun_high {w w4 : World} {l : List V} {h b : Nat} (hb : Below w.heap.size w w4) (c : Nat) (hc : Tr.own ⟨true, l, h, b, [], w4.heap.size, .slice none 0 0⟩ c) : w.heap.size ≤ c := by
  rcases hc with hc | hc
  · rw [show c = w4.heap.size from hc]
    exact hb.size
  · simp [Value.ownBlock] at hc
theorem two_ok : listE [V.int 1, V.int 2] = 0 := by decide
theorem push3_ok : pushE [V.int 1, V.int 2] (V.int 3) = 0 := by decide
theorem set9_ok : setE [V.int 1, V.int 2, V.int 3] 0 (V.int 9) = 0 := by decide
set_option maxRecDepth 100000 in
set_option maxHeartbeats 8000000 in
theorem speaks13_calls (w : World) (hT : Lib.Utf8Tabs 0 1 w) : Calls Tryd.prog 33 #[] w fun e w' => e = .returned (.bool true) ∧ Below w.heap.size w w' := by
  have hw1 : ∃ w1, w.alloc (.cells #[.int .i64 1, .int .i64 2] 2) = w1 ∧ Below w.heap.size w w1 ∧ w1.heap[w.heap.size]? = some (.cells #[.int .i64 1, .int .i64 2] 2 (0, 0)) :=
    ⟨_, rfl, (Below.refl _ _).alloc (Nat.le_refl _) _, heap_alloc_new w _⟩
  obtain ⟨w1, hw1, hB1, hb0⟩ := hw1
  have HINTS := Lib.hid (ints_calls [1, 2] _ w1 (isI2 hb0 (by decide) (by decide)))
  have HT := Lib.hid hT
  have h2w := tabs_size hT
  clear hT hb0
  go_enter Tryd.func33, Tryd.ntmps33
  go_wp2_with (first
    | (go_at_call 46; refine HINTS.out.mono ?_; rintro e w2 ⟨r, rfl, hr, hb2⟩; have hb3 := below_then hB1 hB1.size hb2; have HOF := Lib.hid (of_calls [V.int 1, V.int 2] r w2 _ hr (tabs_below HT.out hb3)); clear hr)
    | (go_at_call 11; refine HOF.out.mono ?_; rintro e w4 ⟨p, rfl, hp, hb4⟩; rw [two_ok] at *; obtain ⟨h, b, rfl, hv⟩ := (hp.resolve_left (fun h => h.1 rfl)).2; have hb5 := below_then hb3 hb3.size hb4; have HBG := Lib.hid (begin_calls _ h b w4 (fun _ => False) (hv.keep (Keeps.weak fun _ _ h => h)) (fun _ h => h.elim) (Nat.le_trans h2w hb5.size)); have HV := Lib.hid hv; clear hp hv)
    | (go_at_call 34; refine HBG.out.mono ?_; rintro e w5 ⟨rfl, hx0, hb6⟩; have hb7 := below_then hb5 hb5.size hb6; have HX0 := Lib.hid (hx0.mono (k' := 31) (by decide)); have HV0 := Lib.hid (HV.out.keep (w' := w5) (S' := fun b => ¬ Tr.own ⟨true, [V.int 1, V.int 2], h, b, [], w4.heap.size, .slice none 0 0⟩ b) (Keeps.below_to hb6 fun b h1 h2 h3 => (by rcases h3 with h3 | h3; exact absurd (show b = w4.heap.size from h3) (Nat.ne_of_lt h1); simp [Value.ownBlock] at h3))); clear hx0))
  go_wp2_with (first
    | (go_at_call 47; refine (int_calls 3 _).mono ?_; rintro e w6 ⟨rfl, hb8⟩; have hb9 := below_then hb7 hb7.size hb8; have hP := (tpush_calls w6 (fun _ => False) _ (V.int 3) _ (HX0.out.below hb8) rfl (fun _ h => h.elim) (int_is w6 _ (by decide) (by decide)) (tabs_below HT.out hb9)); rw [show pushE (Tr.all ⟨true, [V.int 1, V.int 2], h, b, [], w4.heap.size, .slice none 0 0⟩) (V.int 3) = 0 from push3_ok, if_pos rfl] at hP; have HP := Lib.hid hP; clear hP; have HV6 := Lib.hid (HV0.out.below hb8))
    | (go_at_call 37; refine HP.out.mono ?_; rintro e w7 ⟨rfl, hbt, x1, hx1, ht1, ho1, ha1, hown1⟩; have ho0 := begun_high (l := [V.int 1, V.int 2]) (h := h) (b := b) hb5; have ht1' : x1.t = w4.heap.size := ht1; have ha1' : x1.all = [V.int 1, V.int 2, V.int 3] := ha1; have hb10 := below_but hb9 hbt ho0; have HX1 := Lib.hid (And.intro hx1 (And.intro ht1' (And.intro ho1 (And.intro ha1' (fun b h => (hown1 b h).elim (ho0 b) (fun h2 => Nat.le_trans hb9.size h2)))))); have HV7 := Lib.hid (vec_kept HV6.out hbt hown1); clear hbt hx1 ht1 ho1 ha1 hown1 ho0 ht1' ha1'))
  go_wp2_with (first
    | (go_at_call 47; refine (int_calls 9 _).mono ?_; rintro e w8 ⟨rfl, hb11⟩; have hb12 := below_then hb10 hb10.size hb11; have hP := (tset_calls w8 (fun _ => False) 31 x1 0 (V.int 9) _ (HX1.out.1.below hb11) HX1.out.2.2.1 (fun _ h => h.elim) (int_is w8 _ (by decide) (by decide)) (tabs_below HT.out hb12) (by decide) (by decide)); rw [HX1.out.2.1, HX1.out.2.2.2.1, set9_ok, if_pos rfl] at hP; have HP2 := Lib.hid hP; clear hP; have HV8 := Lib.hid (HV7.out.below hb11))
    | (go_at_call 41; refine HP2.out.mono ?_; rintro e w9 ⟨rfl, hbt, x2, hx2, ht2, ho2, ha2, hown2⟩; have ho0 := HX1.out.2.2.2.2; have hb13 := below_but hb12 hbt ho0; have ht2' : x2.t = w4.heap.size := ht2.trans HX1.out.2.1; have ha2' : x2.all = [V.int 9, V.int 2, V.int 3] := ha2; have HX2 := Lib.hid (And.intro hx2 (And.intro ht2' (And.intro (ho2.trans HX1.out.2.2.1) (And.intro ha2' (fun b h => (hown2 b h).elim (ho0 b) (fun h2 => Nat.le_trans hb12.size h2)))))); have HV9 := Lib.hid (vec_kept HV8.out hbt hown2); have hS := tseal_calls w9 (fun _ => False) x2 (hx2.mono (by decide)) (ho2.trans HX1.out.2.2.1) (tabs_below HT.out hb13) (fun _ h => h.elim); rw [ht2'] at hS; have HS := Lib.hid hS; clear hS hbt hx2 ht2 ho2 ha2 hown2 ho0 ht2' ha2')
    | (go_at_call 36; refine HS.out.mono ?_; rintro e w10 ⟨x3, rfl, hbt, hx3, ht3, ho3, hm3, hw3, hown3⟩; have hb14 := below_but hb13 hbt HX2.out.2.2.2.2; have HV10 := Lib.hid (vec_kept HV9.out hbt (fun b h => .inl (hown3 b h))); have hv3 := hx3.vec; rw [hm3, HX2.out.2.2.2.1] at hv3; have HX3 := Lib.hid (And.intro hx3 (And.intro ht3 ho3)); have HI := Lib.hid (items_calls _ _ _ w10 _ hv3); clear hbt hx3 ht3 ho3 hm3 hw3 hown3 hv3))
  go_wp2_with (first
    | (go_at_call 32; refine HI.out.mono ?_; rintro e w11 ⟨v11, rfl, hv11, hb15⟩; have hb16 := below_then hb14 hb14.size hb15; obtain ⟨w12, hw12, hB12, hk12⟩ : ∃ w12, w11.alloc (.cells #[.int .i64 9, .int .i64 2, .int .i64 3] 2) = w12 ∧ Below w11.heap.size w11 w12 ∧ w12.heap[w11.heap.size]? = some (.cells #[.int .i64 9, .int .i64 2, .int .i64 3] 2 (0, 0)) := ⟨_, rfl, (Below.refl _ _).alloc (Nat.le_refl _) _, heap_alloc_new w11 _⟩; have HI2 := Lib.hid (ints_calls [9, 2, 3] _ w12 (isI3 hk12 (by decide) (by decide) (by decide))); have HV11 := Lib.hid (hv11.below hB12); have hb17 := below_then hb16 hb16.size hB12; have HX11 := Lib.hid ((HX3.out.1.below hb15).below hB12); have HV12 := Lib.hid ((HV10.out.below hb15).below hB12); clear hv11 hk12)
    | (go_at_call 46; refine HI2.out.mono ?_; rintro e w13 ⟨r13, rfl, hr13, hb18⟩; have hb19 := below_then hb17 hb17.size hb18; have HC := Lib.hid (sames_calls [V.int 9, V.int 2, V.int 3] [V.int 9, V.int 2, V.int 3] v11 r13 w13 _ _ (HV11.out.below hb18) hr13); have HX13 := Lib.hid (HX11.out.below hb18); have HV13 := Lib.hid (HV12.out.below hb18); clear hr13)
    | (go_at_call 19; refine HC.out.mono ?_; rintro e w14 ⟨rfl, hb20⟩; have hb21 := below_then hb19 hb19.size hb20; have HX14 := Lib.hid (HX13.out.below hb20); have HV14 := Lib.hid (HV13.out.below hb20)))
  go_wp2_with (first
    | (go_at_call 47; refine (int_calls 4 _).mono ?_; rintro e w15 ⟨rfl, hb22⟩; have hb23 := below_then hb21 hb21.size hb22; have hP := shut_push (.pointer (some ⟨w4.heap.size, 0, none⟩)) (V.int 4) _ w15 (fun _ => True) (int_is w15 _ (by decide) (by decide)) (fun w2 _ hb => HX3.out.2.1 ▸ shut_of ((HX14.out.below hb22).below hb) HX3.out.2.2); have HP4 := Lib.hid hP; have HV15 := Lib.hid (HV14.out.below hb22); clear hP)
    | (go_at_call 37; refine HP4.out.mono ?_; rintro e w16 ⟨rfl, hb24⟩; have hb25 := below_then hb23 hb23.size hb24; have HL := Lib.hid (len_calls _ _ _ w16 _ (HV15.out.below hb24)))
    | (go_at_call 24; refine HL.out.mono ?_; rintro e w17 ⟨rfl, hb26⟩; have hb27 := below_then hb25 hb25.size hb26))
  go_ret
  exact ⟨rfl, hb27⟩
end Go.Proofs.YtaeldfnihocljaaDoor
