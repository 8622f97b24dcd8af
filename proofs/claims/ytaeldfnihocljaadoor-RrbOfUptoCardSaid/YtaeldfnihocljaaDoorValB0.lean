/- The reference: is one part of a value right? -/
import Derived.Test.YtaeldfnihocljaaDoorValA
import Derived.Test.YtaeldfnihocljaaDoorOk
set_option linter.unusedVariables false
set_option linter.unusedSimpArgs false
namespace Go.Proofs.YtaeldfnihocljaaDoor
open Go.RowKit Go.Shelf
attribute [local go_sem] lt_succ_of

set_option maxHeartbeats 4000000 in
set_option maxRecDepth 100000 in
theorem refown_0 (n : Int) (t : ByteArray) (l : List V) (A : Option Addr) (ca : Nat) (w : World) (S : Nat → Prop) (hca : l.length ≤ ca) (hA : LA w S l A) (hl1 : l.length ≤ 4294967296) (ht1 : t.size ≤ 140737488355328) :
    Calls Tryd.prog 69 #[.agg #[.int .i64 0, .int .i64 n, .string t, .slice A l.length ca]] w fun e w' => e = .returned (.bool (okB (.mk 0 n t l))) ∧ Below w.heap.size w w' := by
  obtain ⟨w1, hw1, hB1, hsz, hb0⟩ := box1 w (.int .i64 0) (.int .i64 n) (.string t) (.slice A l.length ca) 31
  obtain ⟨a0, a1, a2, a3⟩ := block4 hb0
  clear hb0
  have hsn := size_nil t
  have HK := Lib.hid (ok_0 n t l)
  obtain ⟨OKX, hOK⟩ : ∃ b, okB (.mk 0 n t l) = b := ⟨_, rfl⟩
  rw [hOK] at HK ⊢
  clear hOK
  by_cases hn : n = 0
  · subst hn
    by_cases ht : t.toList = []
    · have hte : t.toList.isEmpty = true := by rw [ht]; rfl
      have hts := hsn.2 ht
      by_cases hl : l.length = 0
      · have HOK : Hid (OKX = true) := Lib.hid (HK.out.2 (by exact ⟨rfl, hts, hl⟩))
        clear hts
        clear HK hsn
        obtain rfl : l = [] := List.eq_nil_of_length_eq_zero hl
        clear hw1 hB1 hsz a0 a1 a2 a3 w1 hl hl1
        simp only [List.length_nil]
        go_enter Tryd.func69, Tryd.ntmps69
        go_wp2_with (first | (go_at_call 73; refine (coll_calls _ _).mono ?_; rintro e w' ⟨rfl, rfl⟩) | (go_at_call 72; refine (letters_calls _ _ (by assumption)).mono ?_; rintro e w' ⟨rfl, rfl⟩))
        go_loop [4] (fun v => v = .int .i64 1) (fun _ => 0)
        case atStart => exact rfl
        case round =>
          subst hrel
          go_wp2_with fail
          go_ret
          exact ⟨ret_b HOK.out.symm, (Below.refl _ _).alloc (Nat.le_refl _) _⟩
      · have hl2 : 0 < l.length := by omega
        have HOK : Hid (OKX = false) := Lib.hid (by cases OKX with | false => rfl | true => exact absurd (HK.out.1 rfl) (by simp [hl]))
        clear HK hsn
        clear hts
        go_enter Tryd.func69, Tryd.ntmps69
        go_wp2_with (first | (go_at_call 73; refine (coll_calls _ _).mono ?_; rintro e w' ⟨rfl, rfl⟩) | (go_at_call 72; refine (letters_calls _ _ (by assumption)).mono ?_; rintro e w' ⟨rfl, rfl⟩))
        go_ret
        exact ⟨ret_b HOK.out.symm, hB1⟩
    · have hte : t.toList.isEmpty = false := by cases h : t.toList with | nil => exact absurd h ht | cons => rfl
      have hte2 : (t.toList == []) = false := by cases h : t.toList with | nil => exact absurd h ht | cons => rfl
      have hts : ¬ t.size = 0 := fun h => ht (hsn.1 h)
      have HOK : Hid (OKX = false) := Lib.hid (by cases OKX with | false => rfl | true => exact absurd (HK.out.1 rfl) (by simp [hts]))
      clear HK hsn
      clear hts
      go_enter Tryd.func69, Tryd.ntmps69
      go_wp2_with (first | (go_at_call 73; refine (coll_calls _ _).mono ?_; rintro e w' ⟨rfl, rfl⟩) | (go_at_call 72; refine (letters_calls _ _ (by assumption)).mono ?_; rintro e w' ⟨rfl, rfl⟩))
      go_ret
      exact ⟨ret_b HOK.out.symm, hB1⟩
  · have hn0 : (n != 0) = true := by simp; omega
    have HOK : Hid (OKX = false) := Lib.hid (by cases OKX with | false => rfl | true => exact absurd (HK.out.1 rfl) (by simp [hn]))
    clear HK hsn
    go_enter Tryd.func69, Tryd.ntmps69
    go_wp2_with (first | (go_at_call 73; refine (coll_calls _ _).mono ?_; rintro e w' ⟨rfl, rfl⟩) | (go_at_call 72; refine (letters_calls _ _ (by assumption)).mono ?_; rintro e w' ⟨rfl, rfl⟩))
    go_ret
    exact ⟨ret_b HOK.out.symm, hB1⟩

set_option maxHeartbeats 4000000 in
set_option maxRecDepth 100000 in
theorem refown_1 (n : Int) (t : ByteArray) (l : List V) (A : Option Addr) (ca : Nat) (w : World) (S : Nat → Prop) (hca : l.length ≤ ca) (hA : LA w S l A) (hl1 : l.length ≤ 4294967296) (ht1 : t.size ≤ 140737488355328) :
    Calls Tryd.prog 69 #[.agg #[.int .i64 1, .int .i64 n, .string t, .slice A l.length ca]] w fun e w' => e = .returned (.bool (okB (.mk 1 n t l))) ∧ Below w.heap.size w w' := by
  obtain ⟨w1, hw1, hB1, hsz, hb0⟩ := box1 w (.int .i64 1) (.int .i64 n) (.string t) (.slice A l.length ca) 31
  obtain ⟨a0, a1, a2, a3⟩ := block4 hb0
  clear hb0
  have hsn := size_nil t
  have HK := Lib.hid (ok_1 n t l)
  obtain ⟨OKX, hOK⟩ : ∃ b, okB (.mk 1 n t l) = b := ⟨_, rfl⟩
  rw [hOK] at HK ⊢
  clear hOK
  by_cases hn : n = 0 ∨ n = 1
  · rcases hn with rfl | rfl
    all_goals
      by_cases ht : t.toList = []
      · have hte : t.toList.isEmpty = true := by rw [ht]; rfl
        have hts := hsn.2 ht
        by_cases hl : l.length = 0
        · have HOK : Hid (OKX = true) := Lib.hid (HK.out.2 (by exact ⟨by simp, hts, hl⟩))
          clear hts
          clear HK hsn
          obtain rfl : l = [] := List.eq_nil_of_length_eq_zero hl
          clear hw1 hB1 hsz a0 a1 a2 a3 w1 hl hl1
          simp only [List.length_nil]
          go_enter Tryd.func69, Tryd.ntmps69
          go_wp2_with (first | (go_at_call 73; refine (coll_calls _ _).mono ?_; rintro e w' ⟨rfl, rfl⟩) | (go_at_call 72; refine (letters_calls _ _ (by assumption)).mono ?_; rintro e w' ⟨rfl, rfl⟩))
          go_loop [4] (fun v => v = .int .i64 1) (fun _ => 0)
          case atStart => exact rfl
          case round =>
            subst hrel
            go_wp2_with fail
            go_ret
            exact ⟨ret_b HOK.out.symm, (Below.refl _ _).alloc (Nat.le_refl _) _⟩
        · have hl2 : 0 < l.length := by omega
          have HOK : Hid (OKX = false) := Lib.hid (by cases OKX with | false => rfl | true => exact absurd (HK.out.1 rfl) (by simp [hl]))
          clear HK hsn
          clear hts
          go_enter Tryd.func69, Tryd.ntmps69
          go_wp2_with (first | (go_at_call 73; refine (coll_calls _ _).mono ?_; rintro e w' ⟨rfl, rfl⟩) | (go_at_call 72; refine (letters_calls _ _ (by assumption)).mono ?_; rintro e w' ⟨rfl, rfl⟩))
          go_ret
          exact ⟨ret_b HOK.out.symm, hB1⟩
      · have hte : t.toList.isEmpty = false := by cases h : t.toList with | nil => exact absurd h ht | cons => rfl
        have hte2 : (t.toList == []) = false := by cases h : t.toList with | nil => exact absurd h ht | cons => rfl
        have hts : ¬ t.size = 0 := fun h => ht (hsn.1 h)
        have HOK : Hid (OKX = false) := Lib.hid (by cases OKX with | false => rfl | true => exact absurd (HK.out.1 rfl) (by simp [hts]))
        clear HK hsn
        clear hts
        go_enter Tryd.func69, Tryd.ntmps69
        go_wp2_with (first | (go_at_call 73; refine (coll_calls _ _).mono ?_; rintro e w' ⟨rfl, rfl⟩) | (go_at_call 72; refine (letters_calls _ _ (by assumption)).mono ?_; rintro e w' ⟨rfl, rfl⟩))
        go_ret
        exact ⟨ret_b HOK.out.symm, hB1⟩
  · have hn0 : (n != 0) = true := by simp; omega
    have hn1 : (n == 1) = false := by simp; omega
    have HOK : Hid (OKX = false) := Lib.hid (by cases OKX with | false => rfl | true => exact absurd (HK.out.1 rfl) (by simp; omega))
    clear HK hsn
    go_enter Tryd.func69, Tryd.ntmps69
    go_wp2_with (first | (go_at_call 73; refine (coll_calls _ _).mono ?_; rintro e w' ⟨rfl, rfl⟩) | (go_at_call 72; refine (letters_calls _ _ (by assumption)).mono ?_; rintro e w' ⟨rfl, rfl⟩))
    go_ret
    exact ⟨ret_b HOK.out.symm, hB1⟩
end Go.Proofs.YtaeldfnihocljaaDoor
