/- The little program that each law runs. -/
import Derived.Test.YtaeldfnihocljaaDoorRrbQ
set_option linter.unusedVariables false
set_option linter.unusedSimpArgs false
namespace Go.Proofs.YtaeldfnihocljaaDoor
open Go.RowKit
attribute [local go_sem] lt_succ_of

theorem three_ok : listE [V.int 1, V.int 2, V.int 3] = 0 := by decide
theorem nine_ok : setE [V.int 1, V.int 2, V.int 3] 1 (V.int 9) = 0 := by decide
theorem int_form {w : World} {S : Nat → Prop} {n : Int} {v : Value} (h : IsV w S (V.int n) v) : ∃ A c, v = .agg #[.int .i64 2, .int .i64 n, .string ⟨#[]⟩, .slice A 0 c] := by
  obtain ⟨_, A, c, rfl, _⟩ := h.eq
  exact ⟨A, c, rfl⟩
theorem zero_form {w : World} {S : Nat → Prop} {v : Value} (h : IsV w S V.zero v) : ∃ A c, v = .agg #[.int .i64 0, .int .i64 0, .string ⟨#[]⟩, .slice A 0 c] := by
  obtain ⟨_, A, c, rfl, _⟩ := h.eq
  exact ⟨A, c, rfl⟩
theorem box_num (w : World) (c0 c1 c2 c3 : Value) (t : TypeId) : (w.alloc (.cells #[c0, c1, c2, c3] t)).cell? ⟨w.heap.size, 1, none⟩ = some c1 := (block4 (heap_alloc_new w _)).2.1
theorem nth1 : nthV (List.set [V.int 1, V.int 2, V.int 3] (1 : Int).toNat (V.int 9)) 1 = (V.int 9, 0) := rfl
theorem nth2 : nthV [V.int 1, V.int 2, V.int 3] 1 = (V.int 2, 0) := rfl
theorem nth3 : nthV [V.int 1, V.int 2, V.int 3] 3 = (V.zero, 5) := rfl
set_option maxRecDepth 100000 in
set_option maxHeartbeats 8000000 in
theorem speaks_calls (w : World) (hT : Lib.Utf8Tabs 0 1 w) : Calls Tryd.prog 13 #[] w fun e w' => e = .returned (.bool true) ∧ Below w.heap.size w w' := by
  have hw1 : ∃ w1, w.alloc (.cells #[.int .i64 1, .int .i64 2, .int .i64 3] 2) = w1 ∧ Below w.heap.size w w1 ∧ w1.heap[w.heap.size]? = some (.cells #[.int .i64 1, .int .i64 2, .int .i64 3] 2 (0, 0)) :=
    ⟨_, rfl, (Below.refl _ _).alloc (Nat.le_refl _) _, heap_alloc_new w _⟩
  obtain ⟨w1, hw1, hB1, hb0⟩ := hw1
  have hI : IsI w1 [1, 2, 3] (.slice (some ⟨w.heap.size, 0, none⟩) 3 3) := by
    refine ⟨some ⟨w.heap.size, 0, none⟩, 3, rfl, by simp, by simp, fun i hi => ⟨_, rfl, ?_⟩, fun n hn => ?_⟩
    · rw [plus0]
      match i, hi with
      | 0, _ => simp [World.cell?, hb0, numAt]
      | 1, _ => simp [World.cell?, hb0, numAt]
      | 2, _ => simp [World.cell?, hb0, numAt]
    · simp at hn
      rcases hn with rfl | rfl | rfl <;> omega
  have HINTS := Lib.hid (ints_calls [1, 2, 3] _ w1 hI)
  have HT := Lib.hid hT
  clear hT hI hb0
  go_enter Tryd.func13, Tryd.ntmps13
  go_wp2_with (first | (go_at_call 46; refine HINTS.out.mono ?_; rintro e w2 ⟨r, rfl, hr, hb2⟩; have hb3 := below_then hB1 hB1.size hb2; have HOF := Lib.hid (of_calls [V.int 1, V.int 2, V.int 3] r w2 _ hr (tabs_below HT.out hb3)); clear hr) | (go_at_call 11; refine HOF.out.mono ?_; rintro e w4 ⟨p, rfl, hp, hb4⟩; rw [three_ok] at *; obtain ⟨h, b, rfl, hv⟩ := (hp.resolve_left (fun h => h.1 rfl)).2; have HV := Lib.hid hv; have hb5 := below_then hb3 hb3.size hb4; clear hp hv) | (go_at_call 47; refine (int_calls 9 w4).mono ?_; rintro e w5 ⟨rfl, hb6⟩; have HSET := Lib.hid (vset_calls _ h b 1 (V.int 9) _ w5 (fun _ => True) ((HV.out.below hb6).keep (Keeps.weak fun _ _ => trivial)) (int_is w5 _ (by decide) (by decide)) (tabs_below HT.out (below_then hb5 hb5.size hb6)) (by decide) (by decide)); have hb7 := below_then hb5 hb5.size hb6; have HV5 := Lib.hid (HV.out.below hb6)) | (go_at_call 25; refine HSET.out.mono ?_; rintro e w6 ⟨p6, rfl, hp6, hb8⟩; rw [nine_ok] at *; obtain ⟨b', rfl, hv6⟩ := (hp6.resolve_left (fun h => h.1 rfl)).2; have HN1 := Lib.hid (nth_calls _ _ _ 1 w6 _ hv6 (by decide) (by decide)); have HV6 := Lib.hid (HV5.out.below hb8); have HW6 := Lib.hid hv6; have hb9 := below_then hb7 hb7.size hb8; clear hp6 hv6) | (go_at_call 15; refine HN1.out.mono ?_; clear HN1; rintro e w7 ⟨v7, rfl, hv7, hb10⟩; rw [nth1] at *; obtain ⟨A7, c7, rfl⟩ := int_form hv7; have hb11 := below_then hb9 hb9.size hb10; have HV7 := Lib.hid (HV6.out.below hb10); have HW7 := Lib.hid (HW6.out.below hb10); clear hv7) | (go_at_call 15; refine (nth_calls _ h b 1 _ _ (HV7.out.below ((Below.refl _ _).alloc (Nat.le_refl _) _)) (by decide) (by decide)).mono ?_; rintro e w8 ⟨v8, rfl, hv8, hb12⟩; rw [nth2] at *; obtain ⟨A8, c8, rfl⟩ := int_form hv8; have hb13 := below_then ((Below.refl _ _).alloc (Nat.le_refl _) _) (by simp) hb12; have n7 := cellB hb12 (box_num w7 (.int .i64 2) (.int .i64 9) (.string ⟨#[]⟩) (.slice A7 0 c7) 31); have hb14 := below_then hb11 hb11.size hb13; have HV8 := Lib.hid (HV7.out.below hb13); have HW8 := Lib.hid (HW7.out.below hb13); clear HV7 HW7 hv8 hb12 hb13) | (go_at_call 15; refine (nth_calls _ h b 3 _ _ (HV8.out.below ((Below.refl _ _).alloc (Nat.le_refl _) _)) (by decide) (by decide)).mono ?_; rintro e w9 ⟨v9, rfl, hv9, hb15⟩; rw [nth3] at *; obtain ⟨A9, c9, rfl⟩ := zero_form hv9; have hb16 := below_then ((Below.refl _ _).alloc (Nat.le_refl _) _) (by simp) hb15; have n8 := cellB hb15 (box_num w8 (.int .i64 2) (.int .i64 2) (.string ⟨#[]⟩) (.slice A8 0 c8) 31); have n7' := cellB hb16 n7; have hb17 := below_then hb14 hb14.size hb16; have HW9 := Lib.hid (HW8.out.below hb16); have l7 := World.block_lt_of_cell? w9 _ n7'; have l8 := World.block_lt_of_cell? w9 _ n8; clear HV8 HW8 hv9 hb15 hb16 n7) | (go_at_call 24; refine (len_calls _ _ b' _ _ (HW9.out.below ((Below.refl _ _).alloc (Nat.le_refl _) _))).mono ?_; rintro e w10 ⟨rfl, hb18⟩; have hb19 := below_then ((Below.refl _ _).alloc (Nat.le_refl _) _) (by simp) hb18; have hb20 := below_then hb17 hb17.size hb19))
  go_ret
  exact ⟨rfl, hb20⟩
end Go.Proofs.YtaeldfnihocljaaDoor
