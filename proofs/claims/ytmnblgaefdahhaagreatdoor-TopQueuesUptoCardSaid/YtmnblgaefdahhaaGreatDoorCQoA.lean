/- The small functions that the orders stand on. -/
import Derived.Test.YtmnblgaefdahhaaGreatDoorCQnD
import Derived.Test.YtmnblgaefdahhaaGreatDoorCQpA

set_option linter.unusedVariables false
set_option linter.unusedSimpArgs false
namespace Go.Proofs.YtmnblgaefdahhaaGreatDoor
open Go.RowKit Go.Shelf
attribute [local go_sem] lt_succ_of

def eI (n : Int) : Value := .int .i64 n
/-- The first of numbers that is not 0. -/
def orF : List Int → Int
  | [] => 0
  | a :: l => if a = 0 then orF l else a
theorem orF_two (a b : Int) : orF [a, b] = orI a b := by
  unfold orI
  simp only [orF]
  split
  · split <;> omega
  · rfl
set_option maxRecDepth 100000 in
theorem or_calls (l : List Int) (vl : Value) (w : World) (hl : IsX eI w l vl) :
    Calls Tryz.prog 79 #[vl] w fun e w' => e = .returned (.int .i64 (orF l)) ∧ w' = w := by
  obtain ⟨A, ca, rfl, hca, hla, hA⟩ := hl
  have HA := Lib.hid hA
  clear hA
  go_enter Tryz.func79, Tryz.ntmps79
  go_wp2_with fail
  go_loopw [8] (fun vi wr => ∃ i : Nat, vi = .int .i64 i ∧ i ≤ l.length ∧ Hid (orF (l.drop i) = orF l) ∧ wr = w) (fun vi _ => l.length - (intOf vi).toNat)
  case atStart => exact ⟨0, rfl, Nat.zero_le _, Lib.hid rfl, rfl⟩
  case round =>
    obtain ⟨i, rfl, hil, hh, rfl⟩ := hrel
    by_cases hlt : i < l.length
    · have hz : (i : Int) < (l.length : Int) := by omega
      obtain ⟨ad, had, hlb, hat⟩ := HA.out.resolve_left (fun e => by rw [e] at hlt; exact absurd hlt (Nat.not_lt_zero _))
      subst had
      have hc := hat i hlt
      unfold eI at hc
      have hd := List.drop_eq_getElem_cons hlt
      obtain ⟨x, hx⟩ : ∃ x, l[i]'hlt = x := ⟨_, rfl⟩
      rw [hx] at hc hd
      by_cases h0 : x = 0
      · subst h0
        have HF : Hid (orF (l.drop (i + 1)) = orF l) := Lib.hid (by rw [← hh.out, hd, orF, if_pos rfl])
        clear hat hx hd
        go_wp2_with fail
        go_roundw
        case rel => exact ⟨i + 1, by go_num, by omega, HF, by first | rfl | trivial⟩
        case measure => simp [intOf]; omega
      · have h1 : (x != 0) = true := by simpa using h0
        have HF : Hid (x = orF l) := Lib.hid (by rw [← hh.out, hd, orF, if_neg h0])
        clear hat hx hd
        go_wp2_with fail
        go_ret
        exact ⟨by rw [← HF.out]; rfl, rfl⟩
    · have hz : ¬ (i : Int) < (l.length : Int) := by omega
      have HE : Hid (0 = orF l) := Lib.hid (by rw [← hh.out, List.drop_eq_nil_of_le (by omega)]; rfl)
      go_wp2_with fail
      go_ret
      exact ⟨by rw [← HE.out]; rfl, rfl⟩
theorem nanu_calls (a : Int) (w : World) : Calls Tryz.prog 92 #[.int .u32 a] w fun e w' => e = .returned (.bool false) ∧ w = w' := by
  go_enter Tryz.func92, Tryz.ntmps92
  go_wp2
  go_ret
  exact ⟨by simp, rfl⟩
theorem nanl_calls (a : Int) (w : World) : Calls Tryz.prog 94 #[.int .u64 a] w fun e w' => e = .returned (.bool false) ∧ w = w' := by
  go_enter Tryz.func94, Tryz.ntmps94
  go_wp2
  go_ret
  exact ⟨by simp, rfl⟩
theorem cmpu_calls (a b : Int) (w : World) : Calls Tryz.prog 80 #[.int .u32 a, .int .u32 b] w fun e w' => e = .returned (.int .i64 (sgn a b)) ∧ w = w' := by
  go_enter Tryz.func80, Tryz.ntmps80
  go_wp2_with (go_at_call 92; refine (nanu_calls _ _).mono ?_; rintro e w' ⟨rfl, rfl⟩)
  all_goals go_ret
  all_goals exact ⟨ret_i (by unfold sgn; (repeat' split) <;> omega), rfl⟩
theorem cmpl_calls (a b : Int) (w : World) : Calls Tryz.prog 85 #[.int .u64 a, .int .u64 b] w fun e w' => e = .returned (.int .i64 (sgn a b)) ∧ w = w' := by
  go_enter Tryz.func85, Tryz.ntmps85
  go_wp2_with (go_at_call 94; refine (nanl_calls _ _).mono ?_; rintro e w' ⟨rfl, rfl⟩)
  all_goals go_ret
  all_goals exact ⟨ret_i (by unfold sgn; (repeat' split) <;> omega), rfl⟩
theorem away_is (n : Int) : ∃ r, ∀ W, Calls Tryz.prog 86 #[.int .i64 n] W fun e w' => e = .returned (.int .u64 r) ∧ w' = W := by
  by_cases h : n < 0
  · have h1 : decide (n < 0) = true := decide_eq_true h
    clear h
    apply Exists.intro
    intro W
    go_enter Tryz.func86, Tryz.ntmps86
    go_wp2
    go_ret
    exact ⟨rfl, rfl⟩
  · have h1 : decide (n < 0) = false := decide_eq_false h
    clear h
    apply Exists.intro
    intro W
    go_enter Tryz.func86, Tryz.ntmps86
    go_wp2
    go_ret
    exact ⟨rfl, rfl⟩
noncomputable def awayN (n : Int) : Int := Classical.choose (away_is n)
theorem away_calls (n : Int) (W : World) : Calls Tryz.prog 86 #[.int .i64 n] W fun e w' => e = .returned (.int .u64 (awayN n)) ∧ w' = W := Classical.choose_spec (away_is n) W
set_option maxRecDepth 100000 in
theorem hfull_calls (x : V) (vx : Value) (w : World) (S : Nat → Prop) (hx : IsV w S x vx) (hT : Lib.Utf8Tabs 1 2 w) (hr : rightB x = true) :
    Calls Tryz.prog 81 #[vx] w fun e w' => e = .returned (.tuple #[.int .u32 (fullV x), .int .i64 0]) ∧ Bd w w' := by
  have hV := hx
  obtain ⟨hbx, A, ca, rfl, hca, hA⟩ := hx.eq
  obtain ⟨w1, hw1, hB1, hsz, hb0⟩ := box1d w (.int .i64 x.kind) (.int .i64 x.num) (.string x.text) (.slice A x.items.length ca) 39
  obtain ⟨a0, a1, a2, a3⟩ := block4 hb0
  have HC := Lib.hid (checkd_calls x _ w1 S (hV.below hB1.below) (tabs_d hT hB1) hr)
  have HF := Lib.hid (fun (w' : World) (hb : Bd w w') => full_calls x (right_all hr) _ w' S (hV.below hb.below))
  clear hb0 hx hT hr hV hA
  go_enter Tryz.func81, Tryz.ntmps81
  go_wp2_with (first
    | (go_at_call 24; refine HC.out.mono ?_; rintro e w2 ⟨rfl, hb2⟩; have b0 := cellD hb2 a0; have b1 := cellD hb2 a1; have b2 := cellD hb2 a2; have b3 := cellD hb2 a3; have hb12 := hB1.trans hb2)
    | (go_at_call 93; refine (HF.out _ hb12).mono ?_; rintro e w3 ⟨rfl, hb3⟩))
  go_ret2
  exact ⟨rfl, hb12.trans hb3⟩
set_option maxRecDepth 100000 in
theorem ofull_calls (x : V) (vx : Value) (w : World) (S : Nat → Prop) (hx : IsV w S x vx) (hT : Lib.Utf8Tabs 1 2 w) (hr : rightB x = true) :
    Calls Tryz.prog 62 #[vx] w fun e w' => e = .returned (.int .u32 (fullV x)) ∧ Bd w w' := by
  have hV := hx
  obtain ⟨hbx, A, ca, rfl, hca, hA⟩ := hx.eq
  obtain ⟨w1, hw1, hB1, hsz, hb0⟩ := box1d w (.int .i64 x.kind) (.int .i64 x.num) (.string x.text) (.slice A x.items.length ca) 39
  obtain ⟨a0, a1, a2, a3⟩ := block4 hb0
  have HC := Lib.hid (hfull_calls x _ w1 S (hV.below hB1.below) (tabs_d hT hB1) hr)
  clear hb0 hx hT hr hV hA
  go_enter Tryz.func62, Tryz.ntmps62
  go_wp2_with (go_at_call 81; refine HC.out.mono ?_; rintro e w2 ⟨rfl, hb2⟩)
  go_ret
  exact ⟨rfl, hB1.trans hb2⟩
set_option maxRecDepth 100000 in
theorem vparts_calls (x : V) (vx : Value) (w : World) (S : Nat → Prop) (hx : IsV w S x vx) (hT : Lib.Utf8Tabs 1 2 w) (hr : rightB x = true) :
    Calls Tryz.prog 83 #[vx] w fun e w' => e = .returned (.tuple #[.int .i64 (V.size x), .int .i64 0]) ∧ Bd w w' := by
  have hV := hx
  obtain ⟨hbx, A, ca, rfl, hca, hA⟩ := hx.eq
  obtain ⟨w1, hw1, hB1, hsz, hb0⟩ := box1d w (.int .i64 x.kind) (.int .i64 x.num) (.string x.text) (.slice A x.items.length ca) 39
  obtain ⟨a0, a1, a2, a3⟩ := block4 hb0
  have HC := Lib.hid (countd_calls x 16 1024 _ w1 S (hV.below hB1.below) (tabs_d hT hB1) (by omega) (by omega) (by omega) (by omega) (of_decide_eq_true hr))
  have hp := V.size_pos x
  have hp2 : (((V.size x : Nat) : Int) == 0) = false := by rw [beq_eq_false_iff_ne]; omega
  clear hb0 hx hT hr hV hA
  go_enter Tryz.func83, Tryz.ntmps83
  go_wp2_with (go_at_call 58; refine HC.out.mono ?_; rintro e w2 ⟨rfl, hb2⟩)
  go_ret2
  exact ⟨rfl, hB1.trans hb2⟩
set_option maxRecDepth 100000 in
theorem oparts_calls (x : V) (vx : Value) (w : World) (S : Nat → Prop) (hx : IsV w S x vx) (hT : Lib.Utf8Tabs 1 2 w) (hr : rightB x = true) :
    Calls Tryz.prog 64 #[vx] w fun e w' => e = .returned (.int .i64 (V.size x)) ∧ Bd w w' := by
  have hV := hx
  obtain ⟨hbx, A, ca, rfl, hca, hA⟩ := hx.eq
  obtain ⟨w1, hw1, hB1, hsz, hb0⟩ := box1d w (.int .i64 x.kind) (.int .i64 x.num) (.string x.text) (.slice A x.items.length ca) 39
  obtain ⟨a0, a1, a2, a3⟩ := block4 hb0
  have HC := Lib.hid (vparts_calls x _ w1 S (hV.below hB1.below) (tabs_d hT hB1) hr)
  clear hb0 hx hT hr hV hA
  go_enter Tryz.func64, Tryz.ntmps64
  go_wp2_with (go_at_call 83; refine HC.out.mono ?_; rintro e w2 ⟨rfl, hb2⟩)
  go_ret
  exact ⟨rfl, hB1.trans hb2⟩
end Go.Proofs.YtmnblgaefdahhaaGreatDoor
