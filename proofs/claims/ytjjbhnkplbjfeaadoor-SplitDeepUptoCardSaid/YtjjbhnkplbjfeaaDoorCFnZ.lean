/- Has a deque just these items? The little program of the deques. -/
import Derived.Test.YtjjbhnkplbjfeaaDoorCFnY
import Derived.Test.YtjjbhnkplbjfeaaDoorCFnRef

set_option linter.unusedVariables false
set_option linter.unusedSimpArgs false
namespace Go.Proofs.YtjjbhnkplbjfeaaDoor
open Go.RowKit
attribute [local go_sem] lt_succ_of

set_option maxRecDepth 100000 in
set_option maxHeartbeats 4000000 in
theorem dsame_calls (l : List V) (b : Nat) (vl : Value) (w : World) (S S' : Nat → Prop) (h : IsE w S l b) (hl : IsS w S' l vl) :
    Calls Tryd.prog 16 #[.pointer (some ⟨b, 0, none⟩), vl] w fun e w' => e = .returned (.bool true) ∧ Below w.heap.size w w' := by
  have HLN := Lib.hid (len_calls l _ w S h.is)
  have HI := Lib.hid (items_calls l _ w S h.is)
  have HL := Lib.hid hl
  obtain ⟨A, c, rfl, _, _, _⟩ := hl
  have e1 : ((l.length : Int) == (l.length : Int)) = true := by simp
  clear h
  go_enter Tryd.func16, Tryd.ntmps16
  go_wp2_with (first
    | (go_at_call 33; refine HLN.out.mono ?_; rintro e w2 ⟨rfl, rfl⟩)
    | (go_at_call 37; refine HI.out.mono ?_; rintro e w3 ⟨v3, rfl, hv3, hb3⟩; have HC := Lib.hid (sames_calls l l _ _ w3 _ _ hv3 (HL.out.below hb3)); clear hv3)
    | (go_at_call 17; refine HC.out.mono ?_; rintro e w4 ⟨rfl, hb4'⟩; rw [eqL_self]; have hb4 := below_then hb3 hb3.size hb4'))
  go_ret
  exact ⟨rfl, hb4⟩
theorem p1_ok : pushE [] (V.int 1) = 0 := by decide
theorem p2_ok : pushE [V.int 1] (V.int 2) = 0 := by decide
theorem p3_ok : pushE [V.int 1, V.int 2] (V.int 0) = 0 := by decide
theorem nth_2 : nthV [V.int 0, V.int 1, V.int 2] 2 = (V.int 2, 0) := rfl
theorem int_form {w : World} {S : Nat → Prop} {n : Int} {v : Value} (h : IsV w S (V.int n) v) : ∃ A c, v = .agg #[.int .i64 2, .int .i64 n, .string ⟨#[]⟩, .slice A 0 c] := by
  obtain ⟨_, A, c, rfl, _⟩ := h.eq
  exact ⟨A, c, rfl⟩
theorem box_num (w : World) (c0 c1 c2 c3 : Value) (t : TypeId) : (w.alloc (.cells #[c0, c1, c2, c3] t)).cell? ⟨w.heap.size, 1, none⟩ = some c1 := (block4 (heap_alloc_new w _)).2.1
theorem IsE.all {w : World} {S : Nat → Prop} {l : List V} {b : Nat} (h : IsE w S l b) : IsE w (fun _ => True) l b := h.keep (Keeps.weak fun _ _ => trivial)
theorem new_is {w : World} {b : Nat} (h : w.heap[b]? = some (.cells #[.pointer none] 99 (0, 0))) : IsE w (fun _ => True) [] b := ⟨by simp, .nil, none, trivial, block1 h, rfl, trivial, rfl⟩
theorem ints_box (w : World) : IsI (w.alloc (.cells #[.int .i64 0, .int .i64 1, .int .i64 2] 2)) [0, 1, 2] (.slice (some ⟨w.heap.size, 0, none⟩) 3 3) := by
  obtain ⟨w1, hw1⟩ : ∃ w1, w.alloc (.cells #[.int .i64 0, .int .i64 1, .int .i64 2] 2) = w1 := ⟨_, rfl⟩
  have hb0 := heap_alloc_new w (.cells #[.int .i64 0, .int .i64 1, .int .i64 2] 2)
  rw [hw1] at hb0 ⊢
  refine ⟨some ⟨w.heap.size, 0, none⟩, 3, rfl, by simp, by simp, fun i hi => ⟨_, rfl, ?_⟩, fun n hn => ?_⟩
  · rw [plus0]
    match i, hi with
    | 0, _ => simp [World.cell?, hb0, numAt]
    | 1, _ => simp [World.cell?, hb0, numAt]
    | 2, _ => simp [World.cell?, hb0, numAt]
  · simp at hn
    rcases hn with rfl | rfl | rfl <;> omega
set_option maxRecDepth 100000 in
set_option maxHeartbeats 8000000 in
theorem fspeaks_calls (w : World) (hT : Lib.Utf8Tabs 1 2 w) : Calls Tryd.prog 15 #[] w fun e w' => e = .returned (.bool true) ∧ Below w.heap.size w w' := by
  have HT := Lib.hid hT
  clear hT
  go_enter Tryd.func15, Tryd.ntmps15
  go_wp2_with (first
    | (go_at_call 63; refine (new_calls _).mono ?_; rintro e w2 ⟨rfl, hk2, hb2⟩; have HD2 := Lib.hid (new_is hk2); clear hk2)
    | (go_at_call 67; refine (int_calls 1 w2).mono ?_; rintro e w3 ⟨rfl, hb3'⟩; have hb3 := below_then hb2 hb2.size hb3'; have HP := dfront_calls [] _ (V.int 1) _ w3 (fun _ => True) (HD2.out.below hb3').is (int_is w3 _ (by decide) (by decide)) (tabs_below HT.out hb3); rw [p1_ok] at HP; have HP1 := Lib.hid HP; clear HP HD2)
    | (go_at_call 22; refine HP1.out.mono ?_; rintro e w4 ⟨p4, rfl, hp4, hb4'⟩; obtain ⟨b4, rfl, hd4⟩ := (hp4.resolve_left (fun h => h.1 rfl)).2; have HD4 := Lib.hid hd4.all; have hb4 := below_then hb3 hb3.size hb4'; clear hp4 hd4 HP1))
  go_wp2_with (first
    | (go_at_call 67; refine (int_calls 2 w4).mono ?_; rintro e w5 ⟨rfl, hb5'⟩; have hb5 := below_then hb4 hb4.size hb5'; have HP := dback_calls [V.int 1] _ (V.int 2) _ w5 (fun _ => True) (HD4.out.below hb5').is (int_is w5 _ (by decide) (by decide)) (tabs_below HT.out hb5); rw [p2_ok] at HP; have HP2 := Lib.hid HP; clear HP HD4)
    | (go_at_call 23; refine HP2.out.mono ?_; rintro e w6 ⟨p6, rfl, hp6, hb6'⟩; obtain ⟨b6, rfl, hd6⟩ := (hp6.resolve_left (fun h => h.1 rfl)).2; have HD6 := Lib.hid hd6.all; have hb6 := below_then hb5 hb5.size hb6'; clear hp6 hd6 HP2))
  go_wp2_with (first
    | (go_at_call 67; refine (int_calls 0 w6).mono ?_; rintro e w7 ⟨rfl, hb7'⟩; have hb7 := below_then hb6 hb6.size hb7'; have HP := dfront_calls [V.int 1, V.int 2] _ (V.int 0) _ w7 (fun _ => True) (HD6.out.below hb7').is (int_is w7 _ (by decide) (by decide)) (tabs_below HT.out hb7); rw [p3_ok] at HP; have HP3 := Lib.hid HP; clear HP HD6)
    | (go_at_call 22; refine HP3.out.mono ?_; rintro e w8 ⟨p8, rfl, hp8, hb8'⟩; obtain ⟨b8, rfl, hd8⟩ := (hp8.resolve_left (fun h => h.1 rfl)).2; have HD8 := Lib.hid hd8.all; have hb8 := below_then hb7 hb7.size hb8'; have HAT := dat_calls _ _ 2 w8 _ HD8.out.is (by decide) (by decide); rw [nth_2] at HAT; have HAT := Lib.hid HAT; clear hp8 hd8 HP3)
    | (go_at_call 19; refine HAT.out.mono ?_; rintro e w9 ⟨v9, rfl, hv9, hb9'⟩; obtain ⟨A9, c9, rfl⟩ := int_form hv9; have hb9 := below_then hb8 hb8.size hb9'; have hbA := alloc_of (w := w9) (Below.refl _ _) (.cells #[.int .i64 2, .int .i64 2, .string ⟨#[]⟩, .slice A9 0 c9] 33); have HD9 := Lib.hid ((HD8.out.below hb9').below hbA); have hb10 := below_then hb9 hb9.size hbA; have n9 := box_num w9 (.int .i64 2) (.int .i64 2) (.string ⟨#[]⟩) (.slice A9 0 c9) 33; clear hv9 HD8))
  have HLN := Lib.hid (len_calls _ _ _ _ HD9.out.is)
  have HIT := Lib.hid (items_calls _ _ _ _ HD9.out.is)
  go_wp2_with (first
    | (go_at_call 33; refine HLN.out.mono ?_; rintro e w10 ⟨rfl, rfl⟩)
    | (go_at_call 37; refine HIT.out.mono ?_; rintro e w11 ⟨v11, rfl, hv11, hb11'⟩; have hb11 := below_then hb10 hb10.size hb11'; have hbI := alloc_of (w := w11) (Below.refl _ _) (.cells #[.int .i64 0, .int .i64 1, .int .i64 2] 2); have HV11 := Lib.hid (hv11.below hbI); have hb12 := below_then hb11 hb11.size hbI; have HINTS := Lib.hid (ints_calls [0, 1, 2] _ _ (ints_box w11)); clear hv11)
    | (go_at_call 68; refine HINTS.out.mono ?_; rintro e w13 ⟨v13, rfl, hv13, hb13'⟩; have hb13 := below_then hb12 hb12.size hb13'; have HC := Lib.hid (sames_calls [V.int 0, V.int 1, V.int 2] [V.int 0, V.int 1, V.int 2] _ _ w13 _ _ (HV11.out.below hb13') hv13); clear hv13)
    | (go_at_call 17; refine HC.out.mono ?_; rintro e w14 ⟨rfl, hb14'⟩; rw [eqL_self]; have hb14 := below_then hb13 hb13.size hb14'))
  go_ret
  exact ⟨rfl, hb14⟩
end Go.Proofs.YtjjbhnkplbjfeaaDoor
