/- The reference's look at one part of a value. -/
import Derived.Test.YtaeldfnihocljaaDoorUtf2
import Derived.Test.YtaeldfnihocljaaDoorSpec2
import Derived.Test.YtaeldfnihocljaaDoorCmp
set_option linter.unusedVariables false
set_option linter.unusedSimpArgs false
namespace Go.Proofs.YtaeldfnihocljaaDoor
open Go.RowKit Go.Shelf
attribute [local go_sem] lt_succ_of

/-- How many letters from a place on; below 0: wrong bytes. -/
def letF (s : ByteArray) (pos n : Nat) : Int :=
  if h : pos < s.size then (if Utf8.decode s pos = (65533, 1) then -1 else letF s (pos + (Utf8.decode s pos).2) (n + 1)) else n
termination_by s.size - pos
decreasing_by have := Lib.decode_width_pos s pos h; omega
theorem letF_sign (s : ByteArray) : ∀ (k pos n : Nat), s.size - pos < k → (0 ≤ letF s pos n ↔ utfFrom s pos = true) := by
  intro k
  induction k with
  | zero => intro pos n h; omega
  | succ k ih =>
    intro pos n h
    rw [letF, utfFrom]
    by_cases hp : pos < s.size
    · rw [dif_pos hp, dif_pos hp]
      have := Lib.decode_width_pos s pos hp
      split
      · simp
      · exact ih _ _ (by omega)
    · rw [dif_neg hp, dif_neg hp]
      simp
theorem letF_ok (s : ByteArray) : decide (0 ≤ letF s 0 0) = utfFrom s 0 := by
  have := letF_sign s _ 0 0 (Nat.lt_succ_self _)
  cases h : utfFrom s 0 <;> simp_all
theorem refW_zero (s : ByteArray) (p : Nat) : (refW s p = 0 ↔ Utf8.decode s p = (65533, 1)) := by
  unfold refW
  split
  · simp_all
  · have := Lib.width_pos s p
    simp_all
    omega
theorem refW_good {s : ByteArray} {p : Nat} (h : ¬ Utf8.decode s p = (65533, 1)) : refW s p = (Utf8.decode s p).2 := by unfold refW; rw [if_neg h]
theorem width_le (s : ByteArray) (p : Nat) : (Utf8.decode s p).2 ≤ 4 := by
  rw [Lib.decode_at]
  unfold Lib.decodeN
  repeat' split
  all_goals simp

theorem letters_calls (s : ByteArray) (w : World) (hs : s.size ≤ 140737488355328) :
    Calls Tryd.prog 72 #[.string s] w fun e w' => e = .returned (.int .i64 (letF s 0 0)) ∧ w = w' := by
  go_enter Tryd.func72, Tryd.ntmps72
  go_wp2_with fail
  go_loop [3, 4] (fun a b => ∃ n p : Nat, a = .int .i64 n ∧ b = .int .i64 p ∧ n ≤ p ∧ p ≤ s.size + 4 ∧ Hid (letF s p n = letF s 0 0)) (fun _ b => s.size - (intOf b).toNat)
  case atStart => exact ⟨0, 0, rfl, rfl, by omega, by omega, Lib.hid rfl⟩
  case round =>
    obtain ⟨n, p, rfl, rfl, hnp, hps, hc⟩ := hrel
    by_cases hlt : p < s.size
    · have hl4 := width_le s p
      have hw1 := Lib.width_pos s p
      by_cases hbad : Utf8.decode s p = (65533, 1)
      · have h0 : (refW s p == 0) = true := by simpa using (refW_zero s p).2 hbad
        have HU : Hid (letF s 0 0 = -1) := Lib.hid (by rw [← hc.out, letF, dif_pos hlt, if_pos hbad])
        clear hbad
        go_wp2_with (go_at_call 77; refine (refutf_calls s p _ hlt hs).mono ?_; rintro e w' ⟨rfl, rfl⟩)
        go_ret
        exact ⟨ret_i HU.out.symm, rfl⟩
      · have h0 : (refW s p == 0) = false := by
          have := refW_zero s p
          simpa [hbad] using this
        have hg := refW_good hbad
        have HU : Hid (letF s (p + (Utf8.decode s p).2) (n + 1) = letF s 0 0) := Lib.hid (by rw [← hc.out]; conv => rhs; rw [letF, dif_pos hlt, if_neg hbad])
        have hr0 : 0 ≤ refW s p := by omega
        have hr1 : refW s p ≤ 4 := by omega
        have HG := Lib.hid hg
        clear hbad hg
        go_wp2_with (go_at_call 77; refine (refutf_calls s p _ hlt hs).mono ?_; rintro e w' ⟨rfl, rfl⟩)
        go_round
        case rel => exact ⟨n + 1, p + (Utf8.decode s p).2, by go_num, by rw [HG.out]; go_num, by omega, by omega, HU⟩
        case measure => rw [HG.out]; simp [intOf]; omega
    · have HU : Hid (letF s 0 0 = n) := Lib.hid (by rw [← hc.out, letF, dif_neg hlt])
      go_wp2_with fail
      go_ret
      exact ⟨ret_i HU.out.symm, rfl⟩
theorem coll_calls (k : Int) (w : World) : Calls Tryd.prog 73 #[.int .i64 k] w fun e w' => e = .returned (.bool (decide (k = 4 ∨ k = 5 ∨ k = 6))) ∧ w = w' := by
  have cs : ((k == 4) = true ∧ (k == 5) = false ∧ (k == 6) = false ∧ k = 4) ∨ ((k == 4) = false ∧ (k == 5) = true ∧ (k == 6) = false ∧ k = 5) ∨ ((k == 4) = false ∧ (k == 5) = false ∧ (k == 6) = true ∧ k = 6) ∨ ((k == 4) = false ∧ (k == 5) = false ∧ (k == 6) = false ∧ ¬ (k = 4 ∨ k = 5 ∨ k = 6)) := by simp; omega
  rcases cs with ⟨c4, c5, c6, h⟩ | ⟨c4, c5, c6, h⟩ | ⟨c4, c5, c6, h⟩ | ⟨c4, c5, c6, h⟩
  all_goals
    have H := Lib.hid h
    clear h
    go_enter Tryd.func73, Tryd.ntmps73
    go_wp2_with fail
    go_ret
    exact ⟨ret_b (by have := H.out; simp [this]), rfl⟩
end Go.Proofs.YtaeldfnihocljaaDoor
