/- A deque cut where it weighs so much; has a deque just these items? The little program of the deques that are cut and joined. What stands beside an error. -/
import Derived.Test.YtjjbhnkplbjfeaaDoorCSpR
import Derived.Test.YtjjbhnkplbjfeaaDoorCFnZ
import Derived.Test.YtjjbhnkplbjfeaaDoorCFnRefF
/- A deque cut where it weighs so much; has a deque just these items? -/
set_option linter.unusedVariables false
set_option linter.unusedSimpArgs false
namespace Go.Proofs.YtjjbhnkplbjfeaaDoor
open Go.RowKit
attribute [local go_sem] lt_succ_of

set_option maxRecDepth 100000 in
set_option maxHeartbeats 4000000 in
theorem heavy_bad (p : Option Addr) (m : Int) (w : World) (hm : m < 0) :
    Calls Tryd.prog 41 #[.pointer p, .int .i64 m] w fun e w' => e = .returned (.tuple #[.pointer none, .pointer none, .int .i64 1]) ∧ Below w.heap.size w w' := by
  have HF := Lib.hid (find_bad p m w hm)
  go_enter Tryd.func41, Tryd.ntmps41
  go_wp2_with (go_at_call 39; refine HF.out.mono ?_; rintro e w3 ⟨rfl, hb3⟩)
  refine bodyPost_ret (v := .tuple #[.pointer none, .pointer none, .int .i64 1]) (by simp [results, Tryd.results41, go_sem]) rfl ⟨rfl, hb3⟩
set_option maxRecDepth 100000 in
set_option maxHeartbeats 4000000 in
theorem heavy_calls (l : List V) (p : Option Addr) (m : Int) (w : World) (S : Nat → Prop) (h : IsD w S l p) (hok : listE l = 0) (hT : Lib.Utf8Tabs 1 2 w) (hm : ¬ m < 0) :
    Calls Tryd.prog 41 #[.pointer p, .int .i64 m] w fun e w' => ∃ (n : Nat) (ok : Bool) (b c : Nat), Found l m n ok ∧ e = .returned (.tuple #[.pointer (some ⟨b, 0, none⟩), .pointer (some ⟨c, 0, none⟩), .int .i64 0]) ∧ IsE w' (fun _ => True) (l.take (cutAt l n ok)) b ∧ IsE w' (fun _ => True) (l.drop (cutAt l n ok)) c ∧ Below w.heap.size w w' := by
  have HF := Lib.hid (find_calls l p m w S h hm)
  have HD := Lib.hid h
  have HT := Lib.hid hT
  have HOK := Lib.hid hok
  clear h hT hok
  go_enter Tryd.func41, Tryd.ntmps41
  go_wp2_with fail
  refine HF.out.mono ?_
  rintro e w3 ⟨n, ok, rfl, hfd, hb3⟩
  obtain ⟨j, hj⟩ : ∃ j, cutAt l n ok = j := ⟨_, rfl⟩
  have hjl := cutAt_le hfd
  rw [hj] at hjl
  have HJ := Lib.hid hj
  have HFD := Lib.hid hfd
  have HC := (cut_calls l p (j : Int) w3 S (HD.out.below hb3) HOK.out (tabs_below HT.out hb3)).mono (fun e w' hh => (hh.resolve_left (fun h => h.1 (by omega))).2)
  have HC := Lib.hid HC
  have HLN := Lib.hid (len_calls l p w3 S (HD.out.below hb3))
  clear hfd
  cases ok with
  | true =>
    obtain rfl : n = j := by rw [← hj]; rfl
    clear hj hjl
    go_wp2_with (go_at_call 52; refine HC.out.mono ?_; rintro e w4 ⟨b, c, rfl, hv1, hv2, hb4⟩; have HV1 := Lib.hid hv1; have HV2 := Lib.hid hv2; have hb5 := chain_then hb3 hb4; clear hv1 hv2)
    refine bodyPost_ret (v := .tuple #[.pointer (some ⟨b, 0, none⟩), .pointer (some ⟨c, 0, none⟩), .int .i64 0]) (by simp [results, Tryd.results41, go_sem]) rfl ⟨n, true, b, c, HFD.out, rfl, by rw [HJ.out]; exact HV1.out, by rw [HJ.out]; exact HV2.out, hb5⟩
  | false =>
    obtain rfl : l.length = j := by rw [← hj]; rfl
    clear hj hjl
    go_wp2_with (first
      | (go_at_call 52; refine HC.out.mono ?_; rintro e w4 ⟨b, c, rfl, hv1, hv2, hb4⟩; have HV1 := Lib.hid hv1; have HV2 := Lib.hid hv2; have hb5 := chain_then hb3 hb4; clear hv1 hv2)
      | (go_at_call 33; refine HLN.out.mono ?_; rintro e w4 ⟨rfl, rfl⟩))
    refine bodyPost_ret (v := .tuple #[.pointer (some ⟨b, 0, none⟩), .pointer (some ⟨c, 0, none⟩), .int .i64 0]) (by simp [results, Tryd.results41, go_sem]) rfl ⟨n, false, b, c, HFD.out, rfl, by rw [HJ.out]; exact HV1.out, by rw [HJ.out]; exact HV2.out, hb5⟩
theorem high_is (m : List V) (p : Option Addr) (w : World) (S : Nat → Prop) (h : IsD w S m p) :
    ∃ (n k : Nat), ¬ ((k : Int) < (n : Int)) ∧ (Calls Tryd.prog 32 #[.pointer p] w fun e w' => e = .returned (.int .i64 (n : Int)) ∧ w = w') ∧ (Calls Tryd.prog 34 #[.int .i64 (m.length : Int)] w fun e w' => e = .returned (.int .i64 (k : Int)) ∧ w = w') := by
  obtain ⟨n, ⟨h1, h2⟩, h3⟩ := dheight_calls m p w S h
  obtain ⟨k, h4, h5⟩ := levels_calls m.length w h.1
  refine ⟨n, k, ?_, h3, h5⟩
  have := h4 n h1 h2
  omega
set_option maxRecDepth 100000 in
set_option maxHeartbeats 4000000 in
theorem is_calls (l : List V) (b : Nat) (vl : Value) (w : World) (S S' : Nat → Prop) (h : IsE w S l b) (hl : IsS w S' l vl) :
    Calls Tryd.prog 45 #[.pointer (some ⟨b, 0, none⟩), .int .i64 0, vl, .int .i64 0] w fun e w' => e = .returned (.bool true) ∧ Below w.heap.size w w' := by
  have HLN := Lib.hid (len_calls l _ w S h.is)
  have HI := Lib.hid (items_calls l _ w S h.is)
  have HL := Lib.hid hl
  have HE := Lib.hid h
  obtain ⟨A, c, rfl, _, _, _⟩ := hl
  have e1 : ((l.length : Int) == (l.length : Int)) = true := by simp
  clear h
  go_enter Tryd.func45, Tryd.ntmps45
  go_wp2_with (first
    | (go_at_call 33; refine HLN.out.mono ?_; rintro e w2 ⟨rfl, rfl⟩)
    | (go_at_call 37; refine HI.out.mono ?_; rintro e w3 ⟨v3, rfl, hv3, hb3⟩; have HC := Lib.hid (sames_calls l l _ _ w3 _ _ hv3 (HL.out.below hb3)); clear hv3)
    | (go_at_call 17; refine HC.out.mono ?_; rintro e w4 ⟨rfl, hb4'⟩; rw [eqL_self]; have hb4 := below_then hb3 hb3.size hb4'; obtain ⟨n9, k9, hnk, HHT, HLV⟩ := high_is l _ _ _ (HE.out.below hb4).is; have HHT := Lib.hid HHT; have HLV := Lib.hid HLV; have u3 : decide ((k9 : Int) < (n9 : Int)) = false := decide_eq_false hnk; have u4 : decide ((n9 : Int) ≤ (k9 : Int)) = true := decide_eq_true (by omega))
    | (go_at_call 32; refine HHT.out.mono ?_; rintro e w10 ⟨rfl, rfl⟩)
    | (go_at_call 34; refine HLV.out.mono ?_; rintro e w10 ⟨rfl, rfl⟩))
  go_ret
  exact ⟨rfl, hb4⟩
theorem is_bad (n : Int) (vl : Value) (w : World) (hn : n = 1 ∨ n = 2 ∨ n = 3 ∨ n = 5) (hv : ∃ A k c, vl = .slice A k c) :
    Calls Tryd.prog 45 #[.pointer none, .int .i64 n, vl, .int .i64 n] w fun e w' => e = .returned (.bool true) ∧ w = w' := by
  obtain ⟨A, k, c, rfl⟩ := hv
  rcases hn with rfl | rfl | rfl | rfl
  all_goals
    go_enter Tryd.func45, Tryd.ntmps45
    go_wp2_with fail
    go_ret
    exact ⟨rfl, rfl⟩
end Go.Proofs.YtjjbhnkplbjfeaaDoor

/- The little program of the deques that are cut and joined. -/
set_option linter.unusedVariables false
set_option linter.unusedSimpArgs false
namespace Go.Proofs.YtjjbhnkplbjfeaaDoor
open Go.RowKit
attribute [local go_sem] lt_succ_of

theorem ints3_box (w : World) (a b c : Int) (h : -9223372036854775808 ≤ a ∧ a ≤ 9223372036854775807 ∧ -9223372036854775808 ≤ b ∧ b ≤ 9223372036854775807 ∧ -9223372036854775808 ≤ c ∧ c ≤ 9223372036854775807) : IsI (w.alloc (.cells #[.int .i64 a, .int .i64 b, .int .i64 c] 2)) [a, b, c] (.slice (some ⟨w.heap.size, 0, none⟩) 3 3) := by
  obtain ⟨w1, hw1⟩ : ∃ w1, w.alloc (.cells #[.int .i64 a, .int .i64 b, .int .i64 c] 2) = w1 := ⟨_, rfl⟩
  have hb0 := heap_alloc_new w (.cells #[.int .i64 a, .int .i64 b, .int .i64 c] 2)
  rw [hw1] at hb0 ⊢
  refine ⟨some ⟨w.heap.size, 0, none⟩, 3, rfl, by simp, by simp, fun i hi => ⟨_, rfl, ?_⟩, fun n hn => ?_⟩
  · rw [plus0]
    match i, hi with
    | 0, _ => simp [World.cell?, hb0, numAt]
    | 1, _ => simp [World.cell?, hb0, numAt]
    | 2, _ => simp [World.cell?, hb0, numAt]
  · simp at hn
    rcases hn with rfl | rfl | rfl <;> omega
def L203 : List V := [V.int 2, V.int 0, V.int 3]
theorem ok203 : listE L203 = 0 := by decide
theorem found203 : Found L203 2 2 true := .inl ⟨rfl, by decide, by decide, fun k hk => by
  match k, hk with
  | 0, _ => decide
  | 1, _ => decide
  | 2, _ => decide⟩
theorem rot203 : rotV L203 (-1) = [V.int 3, V.int 2, V.int 0] := rfl
theorem weight203 : weightV L203 = 5 := by decide
theorem find203 (p : Option Addr) (w : World) (S : Nat → Prop) (h : IsD w S L203 p) : Calls Tryd.prog 39 #[.pointer p, .int .i64 2] w fun e w' => e = .returned (.tuple #[.int .i64 2, .bool true, .int .i64 0]) ∧ Below w.heap.size w w' := by
  refine (find_calls L203 p 2 w S h (by decide)).mono ?_
  rintro e w' ⟨n, ok, rfl, hf, hb⟩
  obtain ⟨rfl, rfl⟩ := hf.unique found203
  exact ⟨rfl, hb⟩
set_option maxRecDepth 100000 in
set_option maxHeartbeats 8000000 in
theorem sspeaks_calls (w : World) (hT : Lib.Utf8Tabs 1 2 w) : Calls Tryd.prog 38 #[] w fun e w' => e = .returned (.bool true) ∧ Below w.heap.size w w' := by
  have HT := Lib.hid hT
  have HI1 := Lib.hid (ints_calls [2, 0, 3] _ _ (ints3_box w 2 0 3 (by decide)))
  have hb1 := alloc_of (Below.refl w.heap.size w) (.cells #[.int .i64 2, .int .i64 0, .int .i64 3] 2)
  clear hT
  go_enter Tryd.func38, Tryd.ntmps38
  go_wp2_with (first
    | (go_at_call 68; refine HI1.out.mono ?_; rintro e w2 ⟨v2, rfl, hv2, hb2'⟩; have hb2 := chain_then hb1 hb2'; have HOF := dof_calls L203 _ w2 _ hv2 (tabs_below HT.out hb2); rw [ok203] at HOF; have HOF := Lib.hid HOF; clear hv2)
    | (go_at_call 13; refine HOF.out.mono ?_; rintro e w3 ⟨p3, rfl, hp3, hb3'⟩; obtain ⟨b3, rfl, hd3⟩ := (hp3.resolve_left (fun h => h.1 rfl)).2; have HD3 := Lib.hid hd3.all; have hb3 := chain_then hb2 hb3'; clear hp3 hd3 HOF HI1))
  have HF := Lib.hid (find203 _ w3 _ HD3.out.is)
  go_wp2_with (first
    | (go_at_call 39; refine HF.out.mono ?_; rintro e w4 ⟨rfl, hb4'⟩; have hb4 := chain_then hb3 hb4'; have HD4 := Lib.hid (HD3.out.below hb4'); have HR := rotate_calls L203 _ (-1) w4 _ HD4.out.is ok203 (tabs_below HT.out hb4) (by decide) (by decide); rw [rot203] at HR; have HR := Lib.hid HR; clear HF)
    | (go_at_call 46; refine HR.out.mono ?_; rintro e w5 ⟨b5, rfl, hd5, hb5'⟩; have hb5 := chain_then hb4 hb5'; have HD5 := Lib.hid hd5; have HW := dweight_calls L203 _ w5 _ (HD4.out.below hb5').is; rw [weight203] at HW; have HW := Lib.hid HW; clear hd5 HR)
    | (go_at_call 43; refine HW.out.mono ?_; rintro e w6 ⟨rfl, hb6'⟩; have hb6 := chain_then hb5 hb6'; have HI := Lib.hid (items_calls _ _ w6 _ (HD5.out.below hb6').is); clear HW)
    | (go_at_call 37; refine HI.out.mono ?_; rintro e w7 ⟨v7, rfl, hv7, hb7'⟩; have hb7 := chain_then hb6 hb7'; have hbI := alloc_of (Below.refl w7.heap.size w7) (.cells #[.int .i64 3, .int .i64 2, .int .i64 0] 2); have HV7 := Lib.hid (hv7.below hbI); have hb8 := chain_then hb7 hbI; have HI2 := Lib.hid (ints_calls [3, 2, 0] _ _ (ints3_box w7 3 2 0 (by decide))); clear hv7 HI)
    | (go_at_call 68; refine HI2.out.mono ?_; rintro e w9 ⟨v9, rfl, hv9, hb9'⟩; have hb9 := chain_then hb8 hb9'; have HC := Lib.hid (sames_calls [V.int 3, V.int 2, V.int 0] [V.int 3, V.int 2, V.int 0] _ _ w9 _ _ (HV7.out.below hb9') hv9); clear hv9 HI2)
    | (go_at_call 17; refine HC.out.mono ?_; rintro e w14 ⟨rfl, hb14'⟩; rw [eqL_self]; have hb14 := chain_then hb9 hb14'))
  go_ret
  exact ⟨rfl, hb14⟩
end Go.Proofs.YtjjbhnkplbjfeaaDoor

/- What stands beside an error. -/
set_option linter.unusedVariables false
set_option linter.unusedSimpArgs false
namespace Go.Proofs.YtjjbhnkplbjfeaaDoor
open Go.RowKit
attribute [local go_sem] lt_succ_of

/-- A deque, or none beside an error. -/
def OutP (w : World) (L : List V) (E : Int) (p : Option Addr) : Prop := (E = 0 ∧ ∃ b, p = some ⟨b, 0, none⟩ ∧ IsE w (fun _ => True) L b) ∨ (E ≠ 0 ∧ p = none)
/-- A list, or none beside an error. -/
def OutS (w : World) (L : List V) (E : Int) (v : Value) : Prop := (E = 0 ∧ IsS w (fun _ => True) L v) ∨ (E ≠ 0 ∧ ∃ A k c, v = .slice A k c)
theorem OutP.below {w w' : World} {L : List V} {E : Int} {p : Option Addr} (hb : Below w.heap.size w w') (h : OutP w L E p) : OutP w' L E p := by
  rcases h with ⟨h1, b, h2, h3⟩ | h
  · exact .inl ⟨h1, b, h2, h3.below hb⟩
  · exact .inr h
theorem OutS.below {w w' : World} {L : List V} {E : Int} {v : Value} (hb : Below w.heap.size w w') (h : OutS w L E v) : OutS w' L E v := by
  rcases h with ⟨h1, h2⟩ | h
  · exact .inl ⟨h1, h2.below hb⟩
  · exact .inr h
theorem is_not (n : Int) (vl : Value) (w : World) (hn : n ≠ 0) (h1 : -10 ≤ n ∧ n ≤ 10) (hv : ∃ A k c, vl = .slice A k c) :
    Calls Tryd.prog 45 #[.pointer none, .int .i64 n, vl, .int .i64 n] w fun e w' => e = .returned (.bool true) ∧ w = w' := by
  obtain ⟨A, k, c, rfl⟩ := hv
  have i1 : IntKind.i64.wrap n = n := IntWalk.i64_in _ (by omega)
  have i2 : (n != n) = false := by simp
  have i3 : (n != 0) = true := by simpa using hn
  clear h1
  go_enter Tryd.func45, Tryd.ntmps45
  go_wp2_with fail
  go_ret
  exact ⟨rfl, rfl⟩
theorem is_any {w : World} {L : List V} {E : Int} {p : Option Addr} {v : Value} (h1 : -10 ≤ E ∧ E ≤ 10) (hp : OutP w L E p) (hv : OutS w L E v) :
    Calls Tryd.prog 45 #[.pointer p, .int .i64 E, v, .int .i64 E] w fun e w' => e = .returned (.bool true) ∧ Below w.heap.size w w' := by
  rcases hp with ⟨rfl, b, rfl, hp⟩ | ⟨hn, rfl⟩
  · exact is_calls L b v w _ _ hp (hv.resolve_right (fun h => h.1 rfl)).2
  · refine (is_not E v w hn h1 (hv.resolve_left (fun h => hn h.1)).2).mono ?_
    rintro e w' ⟨rfl, rfl⟩
    exact ⟨rfl, Below.refl _ _⟩
end Go.Proofs.YtjjbhnkplbjfeaaDoor
