/- The reference's look at one part of a value. The reference: is one part of a value right? The reference: is one part of a value right? -/
import Derived.Test.YtoiipdknamgcmaaGreatDoorCUtf
import Derived.Test.YtoiipdknamgcmaaGreatDoorCCmp
/- The reference's look at one part of a value. -/
set_option linter.unusedVariables false
set_option linter.unusedSimpArgs false
namespace Go.Proofs.YtoiipdknamgcmaaGreatDoor
open Go.RowKit Go.Shelf
attribute [local go_sem] lt_succ_of

/-- How many letters from a place on; below 0: wrong bytes. -/
def letF (s : ByteArray) (pos n : Nat) : Int :=
  if h : pos < s.size then (if Utf8.decode s pos = (65533, 1) then -1 else letF s (pos + (Utf8.decode s pos).2) (n + 1)) else n
termination_by s.size - pos
decreasing_by have := Lib.decode_width_pos s pos h; omega
theorem letF_sign (s : ByteArray) : ∀ (k pos n : Nat), s.size - pos < k → (0 ≤ letF s pos n ↔ utfFrom s pos = true) := by
  intro k
  induction k with
  | zero => intro pos n h; omega
  | succ k ih =>
    intro pos n h
    rw [letF, utfFrom]
    by_cases hp : pos < s.size
    · rw [dif_pos hp, dif_pos hp]
      have := Lib.decode_width_pos s pos hp
      split
      · simp
      · exact ih _ _ (by omega)
    · rw [dif_neg hp, dif_neg hp]
      simp
theorem letF_ok (s : ByteArray) : decide (0 ≤ letF s 0 0) = utfFrom s 0 := by
  have := letF_sign s _ 0 0 (Nat.lt_succ_self _)
  cases h : utfFrom s 0 <;> simp_all
theorem refW_zero (s : ByteArray) (p : Nat) : (refW s p = 0 ↔ Utf8.decode s p = (65533, 1)) := by
  unfold refW
  split
  · simp_all
  · have := Lib.width_pos s p
    simp_all
    omega
theorem refW_good {s : ByteArray} {p : Nat} (h : ¬ Utf8.decode s p = (65533, 1)) : refW s p = (Utf8.decode s p).2 := by unfold refW; rw [if_neg h]
theorem width_le (s : ByteArray) (p : Nat) : (Utf8.decode s p).2 ≤ 4 := by
  rw [Lib.decode_at]
  unfold Lib.decodeN
  repeat' split
  all_goals simp

theorem letters_calls (s : ByteArray) (w : World) (hs : s.size ≤ 140737488355328) :
    Calls Tryz.prog 69 #[.string s] w fun e w' => e = .returned (.int .i64 (letF s 0 0)) ∧ w = w' := by
  go_enter Tryz.func69, Tryz.ntmps69
  go_wp2_with fail
  go_loop [3, 4] (fun a b => ∃ n p : Nat, a = .int .i64 n ∧ b = .int .i64 p ∧ n ≤ p ∧ p ≤ s.size + 4 ∧ Hid (letF s p n = letF s 0 0)) (fun _ b => s.size - (intOf b).toNat)
  case atStart => exact ⟨0, 0, rfl, rfl, by omega, by omega, Lib.hid rfl⟩
  case round =>
    obtain ⟨n, p, rfl, rfl, hnp, hps, hc⟩ := hrel
    by_cases hlt : p < s.size
    · have hl4 := width_le s p
      have hw1 := Lib.width_pos s p
      by_cases hbad : Utf8.decode s p = (65533, 1)
      · have h0 : (refW s p == 0) = true := by simpa using (refW_zero s p).2 hbad
        have HU : Hid (letF s 0 0 = -1) := Lib.hid (by rw [← hc.out, letF, dif_pos hlt, if_pos hbad])
        clear hbad
        go_wp2_with (go_at_call 99; refine (refutf_calls s p _ hlt hs).mono ?_; rintro e w' ⟨rfl, rfl⟩)
        go_ret
        exact ⟨ret_i HU.out.symm, rfl⟩
      · have h0 : (refW s p == 0) = false := by
          have := refW_zero s p
          simpa [hbad] using this
        have hg := refW_good hbad
        have HU : Hid (letF s (p + (Utf8.decode s p).2) (n + 1) = letF s 0 0) := Lib.hid (by rw [← hc.out]; conv => rhs; rw [letF, dif_pos hlt, if_neg hbad])
        have hr0 : 0 ≤ refW s p := by omega
        have hr1 : refW s p ≤ 4 := by omega
        have HG := Lib.hid hg
        clear hbad hg
        go_wp2_with (go_at_call 99; refine (refutf_calls s p _ hlt hs).mono ?_; rintro e w' ⟨rfl, rfl⟩)
        go_round
        case rel => exact ⟨n + 1, p + (Utf8.decode s p).2, by go_num, by rw [HG.out]; go_num, by omega, by omega, HU⟩
        case measure => rw [HG.out]; simp [intOf]; omega
    · have HU : Hid (letF s 0 0 = n) := Lib.hid (by rw [← hc.out, letF, dif_neg hlt])
      go_wp2_with fail
      go_ret
      exact ⟨ret_i HU.out.symm, rfl⟩
theorem coll_calls (k : Int) (w : World) : Calls Tryz.prog 70 #[.int .i64 k] w fun e w' => e = .returned (.bool (decide (k = 4 ∨ k = 5 ∨ k = 6))) ∧ w = w' := by
  have cs : ((k == 4) = true ∧ (k == 5) = false ∧ (k == 6) = false ∧ k = 4) ∨ ((k == 4) = false ∧ (k == 5) = true ∧ (k == 6) = false ∧ k = 5) ∨ ((k == 4) = false ∧ (k == 5) = false ∧ (k == 6) = true ∧ k = 6) ∨ ((k == 4) = false ∧ (k == 5) = false ∧ (k == 6) = false ∧ ¬ (k = 4 ∨ k = 5 ∨ k = 6)) := by simp; omega
  rcases cs with ⟨c4, c5, c6, h⟩ | ⟨c4, c5, c6, h⟩ | ⟨c4, c5, c6, h⟩ | ⟨c4, c5, c6, h⟩
  all_goals
    have H := Lib.hid h
    clear h
    go_enter Tryz.func70, Tryz.ntmps70
    go_wp2_with fail
    go_ret
    exact ⟨ret_b (by have := H.out; simp [this]), rfl⟩
end Go.Proofs.YtoiipdknamgcmaaGreatDoor

/- The reference: is one part of a value right? -/
set_option linter.unusedVariables false
set_option linter.unusedSimpArgs false
namespace Go.Proofs.YtoiipdknamgcmaaGreatDoor
open Go.RowKit Go.Shelf
attribute [local go_sem] lt_succ_of

set_option maxHeartbeats 4000000 in
set_option maxRecDepth 100000 in
theorem refown_0 (n : Int) (t : ByteArray) (l : List V) (A : Option Addr) (ca : Nat) (w : World) (S : Nat → Prop) (hca : l.length ≤ ca) (hA : LA w S l A) (hl1 : l.length ≤ 4294967296) (ht1 : t.size ≤ 140737488355328) :
    Calls Tryz.prog 51 #[.agg #[.int .i64 0, .int .i64 n, .string t, .slice A l.length ca]] w fun e w' => e = .returned (.bool (okB (.mk 0 n t l))) ∧ Below w.heap.size w w' := by
  obtain ⟨w1, hw1, hB1, hsz, hb0⟩ := box1 w (.int .i64 0) (.int .i64 n) (.string t) (.slice A l.length ca) 24
  obtain ⟨a0, a1, a2, a3⟩ := block4 hb0
  clear hb0
  have hsn := size_nil t
  have HK := Lib.hid (ok_0 n t l)
  obtain ⟨OKX, hOK⟩ : ∃ b, okB (.mk 0 n t l) = b := ⟨_, rfl⟩
  rw [hOK] at HK ⊢
  clear hOK
  by_cases hn : n = 0
  · subst hn
    by_cases ht : t.toList = []
    · have hte : t.toList.isEmpty = true := by rw [ht]; rfl
      have hts := hsn.2 ht
      by_cases hl : l.length = 0
      · have HOK : Hid (OKX = true) := Lib.hid (HK.out.2 (by exact ⟨rfl, hts, hl⟩))
        clear hts
        clear HK hsn
        obtain rfl : l = [] := List.eq_nil_of_length_eq_zero hl
        clear hw1 hB1 hsz a0 a1 a2 a3 w1 hl hl1
        simp only [List.length_nil]
        go_enter Tryz.func51, Tryz.ntmps51
        go_wp2_with (first | (go_at_call 70; refine (coll_calls _ _).mono ?_; rintro e w' ⟨rfl, rfl⟩) | (go_at_call 69; refine (letters_calls _ _ (by assumption)).mono ?_; rintro e w' ⟨rfl, rfl⟩))
        go_loop [4] (fun v => v = .int .i64 1) (fun _ => 0)
        case atStart => exact rfl
        case round =>
          subst hrel
          go_wp2_with fail
          go_ret
          exact ⟨ret_b HOK.out.symm, (Below.refl _ _).alloc (Nat.le_refl _) _⟩
      · have hl2 : 0 < l.length := by omega
        have HOK : Hid (OKX = false) := Lib.hid (by cases OKX with | false => rfl | true => exact absurd (HK.out.1 rfl) (by simp [hl]))
        clear HK hsn
        clear hts
        go_enter Tryz.func51, Tryz.ntmps51
        go_wp2_with (first | (go_at_call 70; refine (coll_calls _ _).mono ?_; rintro e w' ⟨rfl, rfl⟩) | (go_at_call 69; refine (letters_calls _ _ (by assumption)).mono ?_; rintro e w' ⟨rfl, rfl⟩))
        go_ret
        exact ⟨ret_b HOK.out.symm, hB1⟩
    · have hte : t.toList.isEmpty = false := by cases h : t.toList with | nil => exact absurd h ht | cons => rfl
      have hte2 : (t.toList == []) = false := by cases h : t.toList with | nil => exact absurd h ht | cons => rfl
      have hts : ¬ t.size = 0 := fun h => ht (hsn.1 h)
      have HOK : Hid (OKX = false) := Lib.hid (by cases OKX with | false => rfl | true => exact absurd (HK.out.1 rfl) (by simp [hts]))
      clear HK hsn
      clear hts
      go_enter Tryz.func51, Tryz.ntmps51
      go_wp2_with (first | (go_at_call 70; refine (coll_calls _ _).mono ?_; rintro e w' ⟨rfl, rfl⟩) | (go_at_call 69; refine (letters_calls _ _ (by assumption)).mono ?_; rintro e w' ⟨rfl, rfl⟩))
      go_ret
      exact ⟨ret_b HOK.out.symm, hB1⟩
  · have hn0 : (n != 0) = true := by simp; omega
    have HOK : Hid (OKX = false) := Lib.hid (by cases OKX with | false => rfl | true => exact absurd (HK.out.1 rfl) (by simp [hn]))
    clear HK hsn
    go_enter Tryz.func51, Tryz.ntmps51
    go_wp2_with (first | (go_at_call 70; refine (coll_calls _ _).mono ?_; rintro e w' ⟨rfl, rfl⟩) | (go_at_call 69; refine (letters_calls _ _ (by assumption)).mono ?_; rintro e w' ⟨rfl, rfl⟩))
    go_ret
    exact ⟨ret_b HOK.out.symm, hB1⟩

set_option maxHeartbeats 4000000 in
set_option maxRecDepth 100000 in
theorem refown_1 (n : Int) (t : ByteArray) (l : List V) (A : Option Addr) (ca : Nat) (w : World) (S : Nat → Prop) (hca : l.length ≤ ca) (hA : LA w S l A) (hl1 : l.length ≤ 4294967296) (ht1 : t.size ≤ 140737488355328) :
    Calls Tryz.prog 51 #[.agg #[.int .i64 1, .int .i64 n, .string t, .slice A l.length ca]] w fun e w' => e = .returned (.bool (okB (.mk 1 n t l))) ∧ Below w.heap.size w w' := by
  obtain ⟨w1, hw1, hB1, hsz, hb0⟩ := box1 w (.int .i64 1) (.int .i64 n) (.string t) (.slice A l.length ca) 24
  obtain ⟨a0, a1, a2, a3⟩ := block4 hb0
  clear hb0
  have hsn := size_nil t
  have HK := Lib.hid (ok_1 n t l)
  obtain ⟨OKX, hOK⟩ : ∃ b, okB (.mk 1 n t l) = b := ⟨_, rfl⟩
  rw [hOK] at HK ⊢
  clear hOK
  by_cases hn : n = 0 ∨ n = 1
  · rcases hn with rfl | rfl
    all_goals
      by_cases ht : t.toList = []
      · have hte : t.toList.isEmpty = true := by rw [ht]; rfl
        have hts := hsn.2 ht
        by_cases hl : l.length = 0
        · have HOK : Hid (OKX = true) := Lib.hid (HK.out.2 (by exact ⟨by simp, hts, hl⟩))
          clear hts
          clear HK hsn
          obtain rfl : l = [] := List.eq_nil_of_length_eq_zero hl
          clear hw1 hB1 hsz a0 a1 a2 a3 w1 hl hl1
          simp only [List.length_nil]
          go_enter Tryz.func51, Tryz.ntmps51
          go_wp2_with (first | (go_at_call 70; refine (coll_calls _ _).mono ?_; rintro e w' ⟨rfl, rfl⟩) | (go_at_call 69; refine (letters_calls _ _ (by assumption)).mono ?_; rintro e w' ⟨rfl, rfl⟩))
          go_loop [4] (fun v => v = .int .i64 1) (fun _ => 0)
          case atStart => exact rfl
          case round =>
            subst hrel
            go_wp2_with fail
            go_ret
            exact ⟨ret_b HOK.out.symm, (Below.refl _ _).alloc (Nat.le_refl _) _⟩
        · have hl2 : 0 < l.length := by omega
          have HOK : Hid (OKX = false) := Lib.hid (by cases OKX with | false => rfl | true => exact absurd (HK.out.1 rfl) (by simp [hl]))
          clear HK hsn
          clear hts
          go_enter Tryz.func51, Tryz.ntmps51
          go_wp2_with (first | (go_at_call 70; refine (coll_calls _ _).mono ?_; rintro e w' ⟨rfl, rfl⟩) | (go_at_call 69; refine (letters_calls _ _ (by assumption)).mono ?_; rintro e w' ⟨rfl, rfl⟩))
          go_ret
          exact ⟨ret_b HOK.out.symm, hB1⟩
      · have hte : t.toList.isEmpty = false := by cases h : t.toList with | nil => exact absurd h ht | cons => rfl
        have hte2 : (t.toList == []) = false := by cases h : t.toList with | nil => exact absurd h ht | cons => rfl
        have hts : ¬ t.size = 0 := fun h => ht (hsn.1 h)
        have HOK : Hid (OKX = false) := Lib.hid (by cases OKX with | false => rfl | true => exact absurd (HK.out.1 rfl) (by simp [hts]))
        clear HK hsn
        clear hts
        go_enter Tryz.func51, Tryz.ntmps51
        go_wp2_with (first | (go_at_call 70; refine (coll_calls _ _).mono ?_; rintro e w' ⟨rfl, rfl⟩) | (go_at_call 69; refine (letters_calls _ _ (by assumption)).mono ?_; rintro e w' ⟨rfl, rfl⟩))
        go_ret
        exact ⟨ret_b HOK.out.symm, hB1⟩
  · have hn0 : (n != 0) = true := by simp; omega
    have hn1 : (n == 1) = false := by simp; omega
    have HOK : Hid (OKX = false) := Lib.hid (by cases OKX with | false => rfl | true => exact absurd (HK.out.1 rfl) (by simp; omega))
    clear HK hsn
    go_enter Tryz.func51, Tryz.ntmps51
    go_wp2_with (first | (go_at_call 70; refine (coll_calls _ _).mono ?_; rintro e w' ⟨rfl, rfl⟩) | (go_at_call 69; refine (letters_calls _ _ (by assumption)).mono ?_; rintro e w' ⟨rfl, rfl⟩))
    go_ret
    exact ⟨ret_b HOK.out.symm, hB1⟩
end Go.Proofs.YtoiipdknamgcmaaGreatDoor

/- The reference: is one part of a value right? -/
set_option linter.unusedVariables false
set_option linter.unusedSimpArgs false
namespace Go.Proofs.YtoiipdknamgcmaaGreatDoor
open Go.RowKit Go.Shelf
attribute [local go_sem] lt_succ_of

set_option maxHeartbeats 4000000 in
set_option maxRecDepth 100000 in
theorem refown_2 (n : Int) (t : ByteArray) (l : List V) (A : Option Addr) (ca : Nat) (w : World) (S : Nat → Prop) (hca : l.length ≤ ca) (hA : LA w S l A) (hl1 : l.length ≤ 4294967296) (ht1 : t.size ≤ 140737488355328) :
    Calls Tryz.prog 51 #[.agg #[.int .i64 2, .int .i64 n, .string t, .slice A l.length ca]] w fun e w' => e = .returned (.bool (okB (.mk 2 n t l))) ∧ Below w.heap.size w w' := by
  obtain ⟨w1, hw1, hB1, hsz, hb0⟩ := box1 w (.int .i64 2) (.int .i64 n) (.string t) (.slice A l.length ca) 24
  obtain ⟨a0, a1, a2, a3⟩ := block4 hb0
  clear hb0
  have hsn := size_nil t
  have HK := Lib.hid (ok_2 n t l)
  obtain ⟨OKX, hOK⟩ : ∃ b, okB (.mk 2 n t l) = b := ⟨_, rfl⟩
  rw [hOK] at HK ⊢
  clear hOK
  by_cases ht : t.toList = []
  · have hte : t.toList.isEmpty = true := by rw [ht]; rfl
    have hts := hsn.2 ht
    by_cases hl : l.length = 0
    · have HOK : Hid (OKX = true) := Lib.hid (HK.out.2 (by exact ⟨hts, hl⟩))
      clear hts
      clear HK hsn
      obtain rfl : l = [] := List.eq_nil_of_length_eq_zero hl
      clear hw1 hB1 hsz a0 a1 a2 a3 w1 hl hl1
      simp only [List.length_nil]
      go_enter Tryz.func51, Tryz.ntmps51
      go_wp2_with (first | (go_at_call 70; refine (coll_calls _ _).mono ?_; rintro e w' ⟨rfl, rfl⟩) | (go_at_call 69; refine (letters_calls _ _ (by assumption)).mono ?_; rintro e w' ⟨rfl, rfl⟩))
      go_loop [4] (fun v => v = .int .i64 1) (fun _ => 0)
      case atStart => exact rfl
      case round =>
        subst hrel
        go_wp2_with fail
        go_ret
        exact ⟨ret_b HOK.out.symm, (Below.refl _ _).alloc (Nat.le_refl _) _⟩
    · have hl2 : 0 < l.length := by omega
      have HOK : Hid (OKX = false) := Lib.hid (by cases OKX with | false => rfl | true => exact absurd (HK.out.1 rfl) (by simp [hl]))
      clear HK hsn
      clear hts
      go_enter Tryz.func51, Tryz.ntmps51
      go_wp2_with (first | (go_at_call 70; refine (coll_calls _ _).mono ?_; rintro e w' ⟨rfl, rfl⟩) | (go_at_call 69; refine (letters_calls _ _ (by assumption)).mono ?_; rintro e w' ⟨rfl, rfl⟩))
      go_ret
      exact ⟨ret_b HOK.out.symm, hB1⟩
  · have hte : t.toList.isEmpty = false := by cases h : t.toList with | nil => exact absurd h ht | cons => rfl
    have hte2 : (t.toList == []) = false := by cases h : t.toList with | nil => exact absurd h ht | cons => rfl
    have hts : ¬ t.size = 0 := fun h => ht (hsn.1 h)
    have HOK : Hid (OKX = false) := Lib.hid (by cases OKX with | false => rfl | true => exact absurd (HK.out.1 rfl) (by simp [hts]))
    clear HK hsn
    clear hts
    go_enter Tryz.func51, Tryz.ntmps51
    go_wp2_with (first | (go_at_call 70; refine (coll_calls _ _).mono ?_; rintro e w' ⟨rfl, rfl⟩) | (go_at_call 69; refine (letters_calls _ _ (by assumption)).mono ?_; rintro e w' ⟨rfl, rfl⟩))
    go_ret
    exact ⟨ret_b HOK.out.symm, hB1⟩

set_option maxHeartbeats 4000000 in
set_option maxRecDepth 100000 in
theorem refown_3 (n : Int) (t : ByteArray) (l : List V) (A : Option Addr) (ca : Nat) (w : World) (S : Nat → Prop) (hca : l.length ≤ ca) (hA : LA w S l A) (hl1 : l.length ≤ 4294967296) (ht1 : t.size ≤ 140737488355328) :
    Calls Tryz.prog 51 #[.agg #[.int .i64 3, .int .i64 n, .string t, .slice A l.length ca]] w fun e w' => e = .returned (.bool (okB (.mk 3 n t l))) ∧ Below w.heap.size w w' := by
  obtain ⟨w1, hw1, hB1, hsz, hb0⟩ := box1 w (.int .i64 3) (.int .i64 n) (.string t) (.slice A l.length ca) 24
  obtain ⟨a0, a1, a2, a3⟩ := block4 hb0
  clear hb0
  have hsn := size_nil t
  have HK := Lib.hid (ok_3 n t l)
  obtain ⟨OKX, hOK⟩ : ∃ b, okB (.mk 3 n t l) = b := ⟨_, rfl⟩
  rw [hOK] at HK ⊢
  clear hOK
  by_cases hn : n = 0
  · subst hn
    by_cases hs : t.size ≤ 256
    · have hs2 : decide (t.size ≤ 256) = true := by simpa using hs
      have hlet := letF_ok t
      cases hu : utfFrom t 0 with
      | true =>
        have hlet2 : 0 ≤ letF t 0 0 := by rw [hu] at hlet; simpa using hlet
        clear hlet
        by_cases hl : l.length = 0
        · have HOK : Hid (OKX = true) := Lib.hid (HK.out.2 ⟨rfl, hs, hu, hl⟩)
          clear HK hsn hu
          obtain rfl : l = [] := List.eq_nil_of_length_eq_zero hl
          clear hw1 hB1 hsz a0 a1 a2 a3 w1 hl hl1
          simp only [List.length_nil]
          go_enter Tryz.func51, Tryz.ntmps51
          go_wp2_with (first | (go_at_call 70; refine (coll_calls _ _).mono ?_; rintro e w' ⟨rfl, rfl⟩) | (go_at_call 69; refine (letters_calls _ _ (by assumption)).mono ?_; rintro e w' ⟨rfl, rfl⟩))
          go_ret
          exact ⟨ret_b HOK.out.symm, (Below.refl _ _).alloc (Nat.le_refl _) _⟩
        · have HOK : Hid (OKX = false) := Lib.hid (by cases OKX with | false => rfl | true => exact absurd (HK.out.1 rfl) (by simp [hl]))
          have hl2 : ((l.length : Int) == 0) = false := by simpa using hl
          clear HK hsn hu
          go_enter Tryz.func51, Tryz.ntmps51
          go_wp2_with (first | (go_at_call 70; refine (coll_calls _ _).mono ?_; rintro e w' ⟨rfl, rfl⟩) | (go_at_call 69; refine (letters_calls _ _ (by assumption)).mono ?_; rintro e w' ⟨rfl, rfl⟩))
          go_ret
          exact ⟨ret_b HOK.out.symm, hB1⟩
      | false =>
        have hlet2 : letF t 0 0 < 0 := by rw [hu] at hlet; simpa using hlet
        have HOK : Hid (OKX = false) := Lib.hid (by cases OKX with | false => rfl | true => exact absurd (HK.out.1 rfl) (by simp [hu]))
        clear HK hsn hu hlet
        go_enter Tryz.func51, Tryz.ntmps51
        go_wp2_with (first | (go_at_call 70; refine (coll_calls _ _).mono ?_; rintro e w' ⟨rfl, rfl⟩) | (go_at_call 69; refine (letters_calls _ _ (by assumption)).mono ?_; rintro e w' ⟨rfl, rfl⟩))
        go_ret
        exact ⟨ret_b HOK.out.symm, hB1⟩
    · have HOK : Hid (OKX = false) := Lib.hid (by cases OKX with | false => rfl | true => exact absurd (HK.out.1 rfl) (by simp; omega))
      have hs2 : decide (t.size ≤ 256) = false := by simpa using hs
      clear HK hsn
      go_enter Tryz.func51, Tryz.ntmps51
      go_wp2_with (first | (go_at_call 70; refine (coll_calls _ _).mono ?_; rintro e w' ⟨rfl, rfl⟩) | (go_at_call 69; refine (letters_calls _ _ (by assumption)).mono ?_; rintro e w' ⟨rfl, rfl⟩))
      go_ret
      exact ⟨ret_b HOK.out.symm, hB1⟩
  · have hn0 : (n != 0) = true := by simp; omega
    have HOK : Hid (OKX = false) := Lib.hid (by cases OKX with | false => rfl | true => exact absurd (HK.out.1 rfl) (by simp [hn]))
    clear HK hsn
    go_enter Tryz.func51, Tryz.ntmps51
    go_wp2_with (first | (go_at_call 70; refine (coll_calls _ _).mono ?_; rintro e w' ⟨rfl, rfl⟩) | (go_at_call 69; refine (letters_calls _ _ (by assumption)).mono ?_; rintro e w' ⟨rfl, rfl⟩))
    go_ret
    exact ⟨ret_b HOK.out.symm, hB1⟩

set_option maxHeartbeats 4000000 in
set_option maxRecDepth 100000 in
theorem refown_4 (n : Int) (t : ByteArray) (l : List V) (A : Option Addr) (ca : Nat) (w : World) (S : Nat → Prop) (hca : l.length ≤ ca) (hA : LA w S l A) (hl1 : l.length ≤ 4294967296) (ht1 : t.size ≤ 140737488355328) :
    Calls Tryz.prog 51 #[.agg #[.int .i64 4, .int .i64 n, .string t, .slice A l.length ca]] w fun e w' => e = .returned (.bool (okB (.mk 4 n t l))) ∧ Below w.heap.size w w' := by
  obtain ⟨w1, hw1, hB1, hsz, hb0⟩ := box1 w (.int .i64 4) (.int .i64 n) (.string t) (.slice A l.length ca) 24
  obtain ⟨a0, a1, a2, a3⟩ := block4 hb0
  clear hb0
  have hsn := size_nil t
  have HK := Lib.hid (ok_4 n t l)
  obtain ⟨OKX, hOK⟩ : ∃ b, okB (.mk 4 n t l) = b := ⟨_, rfl⟩
  rw [hOK] at HK ⊢
  clear hOK
  by_cases hn : n = 0
  · subst hn
    by_cases ht : t.toList = []
    · have hte : t.toList.isEmpty = true := by rw [ht]; rfl
      have hts := hsn.2 ht
      have HOK : Hid (OKX = true) := Lib.hid (HK.out.2 (by exact ⟨rfl, hts⟩))
      clear HK hsn
      clear hts
      go_enter Tryz.func51, Tryz.ntmps51
      go_wp2_with (first | (go_at_call 70; refine (coll_calls _ _).mono ?_; rintro e w' ⟨rfl, rfl⟩) | (go_at_call 69; refine (letters_calls _ _ (by assumption)).mono ?_; rintro e w' ⟨rfl, rfl⟩))
      go_ret
      exact ⟨ret_b HOK.out.symm, hB1⟩
    · have hte : t.toList.isEmpty = false := by cases h : t.toList with | nil => exact absurd h ht | cons => rfl
      have hte2 : (t.toList == []) = false := by cases h : t.toList with | nil => exact absurd h ht | cons => rfl
      have hts : ¬ t.size = 0 := fun h => ht (hsn.1 h)
      have HOK : Hid (OKX = false) := Lib.hid (by cases OKX with | false => rfl | true => exact absurd (HK.out.1 rfl) (by simp [hts]))
      clear HK hsn
      clear hts
      go_enter Tryz.func51, Tryz.ntmps51
      go_wp2_with (first | (go_at_call 70; refine (coll_calls _ _).mono ?_; rintro e w' ⟨rfl, rfl⟩) | (go_at_call 69; refine (letters_calls _ _ (by assumption)).mono ?_; rintro e w' ⟨rfl, rfl⟩))
      go_ret
      exact ⟨ret_b HOK.out.symm, hB1⟩
  · have hn0 : (n != 0) = true := by simp; omega
    have HOK : Hid (OKX = false) := Lib.hid (by cases OKX with | false => rfl | true => exact absurd (HK.out.1 rfl) (by simp [hn]))
    clear HK hsn
    go_enter Tryz.func51, Tryz.ntmps51
    go_wp2_with (first | (go_at_call 70; refine (coll_calls _ _).mono ?_; rintro e w' ⟨rfl, rfl⟩) | (go_at_call 69; refine (letters_calls _ _ (by assumption)).mono ?_; rintro e w' ⟨rfl, rfl⟩))
    go_ret
    exact ⟨ret_b HOK.out.symm, hB1⟩
end Go.Proofs.YtoiipdknamgcmaaGreatDoor
