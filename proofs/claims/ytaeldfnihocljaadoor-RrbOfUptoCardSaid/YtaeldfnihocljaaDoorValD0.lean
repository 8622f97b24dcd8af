/- The program: is one part of a value right? -/
import Derived.Test.YtaeldfnihocljaaDoorCmp2
import Derived.Test.YtaeldfnihocljaaDoorOk
set_option linter.unusedVariables false
set_option linter.unusedSimpArgs false
namespace Go.Proofs.YtaeldfnihocljaaDoor
open Go.RowKit Go.Shelf
attribute [local go_sem] lt_succ_of

set_option maxRecDepth 100000 in
theorem plain_calls (x : V) (vx : Value) (w : World) (S : Nat → Prop) (hx : IsV w S x vx) (hT : Lib.Utf8Tabs 0 1 w) :
    Calls Tryd.prog 70 #[vx] w fun e w' => e = .returned (.bool (plainB x)) ∧ Below w.heap.size w w' := by
  obtain ⟨hb, A, ca, rfl, hca, hA⟩ := hx.eq
  clear hx
  have HT := Lib.hid hT
  clear hT
  cases x with
  | mk k n t l =>
  have hl1 := hb.l1
  have ht1 := hb.t1
  show Calls _ _ _ _ fun e w' => e = .returned (.bool (plainK k n t)) ∧ _
  simp only [V.kind, V.num, V.text, V.items] at *
  clear hb hA
  have hsn := size_nil t
  obtain ⟨PX, hPX⟩ : ∃ b, plainK k n t = b := ⟨_, rfl⟩
  rw [hPX]
  have cs : k = 1 ∨ k = 2 ∨ k = 3 ∨ (k ≠ 1 ∧ k ≠ 2 ∧ k ≠ 3) := by omega
  rcases cs with rfl | rfl | rfl | ⟨k1, k2, k3⟩
  · obtain ⟨w1, hw1, hB1, hsz, hb0⟩ := box1 w (.int .i64 1) (.int .i64 n) (.string t) (.slice A l.length ca) 31
    obtain ⟨a0, a1, a2, a3⟩ := block4 hb0
    clear hb0
    by_cases ht : t.toList = []
    · have hts := hsn.2 ht
      have hte : t.toList.isEmpty = true := by rw [ht]; rfl
      by_cases hn : n = 0
      · subst hn
        have HP : Hid (PX = true) := Lib.hid (by rw [← hPX]; unfold plainK; simp [*])
        clear hPX hsn
        go_enter Tryd.func70, Tryd.ntmps70
        go_wp2_with fail
        go_ret
        exact ⟨ret_b HP.out.symm, hB1⟩
      · have hn0 : (n != 0) = true := by simp; omega
        have hn2 : (n == 0) = false := by simp; omega
        by_cases hn1 : n = 1
        · subst hn1
          have HP : Hid (PX = true) := Lib.hid (by rw [← hPX]; unfold plainK; simp [*])
          clear hPX hsn
          go_enter Tryd.func70, Tryd.ntmps70
          go_wp2_with fail
          go_ret
          exact ⟨ret_b HP.out.symm, hB1⟩
        · have hn3 : (n == 1) = false := by simp; omega
          have HP : Hid (PX = false) := Lib.hid (by rw [← hPX]; unfold plainK; simp [*])
          clear hPX hsn
          go_enter Tryd.func70, Tryd.ntmps70
          go_wp2_with fail
          go_ret
          exact ⟨ret_b HP.out.symm, hB1⟩
    · have hts : ¬ t.size = 0 := fun h => ht (hsn.1 h)
      have hte : t.toList.isEmpty = false := by cases h : t.toList with | nil => exact absurd h ht | cons => rfl
      have hte2 : (t.toList == []) = false := by cases h : t.toList with | nil => exact absurd h ht | cons => rfl
      have HP : Hid (PX = false) := Lib.hid (by rw [← hPX]; unfold plainK; simp [*])
      clear hPX hsn
      go_enter Tryd.func70, Tryd.ntmps70
      go_wp2_with fail
      go_ret
      exact ⟨ret_b HP.out.symm, hB1⟩
  · obtain ⟨w1, hw1, hB1, hsz, hb0⟩ := box1 w (.int .i64 2) (.int .i64 n) (.string t) (.slice A l.length ca) 31
    obtain ⟨a0, a1, a2, a3⟩ := block4 hb0
    clear hb0
    by_cases ht : t.toList = []
    · have hts := hsn.2 ht
      have hte : t.toList.isEmpty = true := by rw [ht]; rfl
      have HP : Hid (PX = true) := Lib.hid (by rw [← hPX]; unfold plainK; simp [*])
      clear hPX hsn
      go_enter Tryd.func70, Tryd.ntmps70
      go_wp2_with fail
      go_ret
      exact ⟨ret_b HP.out.symm, hB1⟩
    · have hts : ¬ t.size = 0 := fun h => ht (hsn.1 h)
      have hte : t.toList.isEmpty = false := by cases h : t.toList with | nil => exact absurd h ht | cons => rfl
      have hte2 : (t.toList == []) = false := by cases h : t.toList with | nil => exact absurd h ht | cons => rfl
      have HP : Hid (PX = false) := Lib.hid (by rw [← hPX]; unfold plainK; simp [*])
      clear hPX hsn
      go_enter Tryd.func70, Tryd.ntmps70
      go_wp2_with fail
      go_ret
      exact ⟨ret_b HP.out.symm, hB1⟩
  · obtain ⟨w1, hw1, hB1, hsz, hb0⟩ := box1 w (.int .i64 3) (.int .i64 n) (.string t) (.slice A l.length ca) 31
    obtain ⟨a0, a1, a2, a3⟩ := block4 hb0
    clear hb0
    by_cases hn : n = 0
    · subst hn
      by_cases hs : t.size ≤ 256
      · have hs2 : decide (t.size ≤ 256) = true := by simpa using hs
        have HP : Hid (PX = utfFrom t 0) := Lib.hid (by rw [← hPX]; unfold plainK; simp [*])
        clear hPX hsn
        go_enter Tryd.func70, Tryd.ntmps70
        go_wp2_with (go_at_call 75; refine (utf_calls _ _ ht1 (tabs_below HT.out hB1)).mono ?_; rintro e w' ⟨rfl, hb3⟩)
        go_ret
        exact ⟨ret_b HP.out.symm, below_then hB1 hB1.size hb3⟩
      · have hs2 : decide (t.size ≤ 256) = false := by simpa using hs
        have HP : Hid (PX = false) := Lib.hid (by rw [← hPX]; unfold plainK; simp [*])
        clear hPX hsn
        go_enter Tryd.func70, Tryd.ntmps70
        go_wp2_with fail
        go_ret
        exact ⟨ret_b HP.out.symm, hB1⟩
    · have hn0 : (n != 0) = true := by simp; omega
      have hn2 : (n == 0) = false := by simp; omega
      have HP : Hid (PX = false) := Lib.hid (by rw [← hPX]; unfold plainK; simp [*])
      clear hPX hsn
      go_enter Tryd.func70, Tryd.ntmps70
      go_wp2_with fail
      go_ret
      exact ⟨ret_b HP.out.symm, hB1⟩
  · obtain ⟨w1, hw1, hB1, hsz, hb0⟩ := box1 w (.int .i64 k) (.int .i64 n) (.string t) (.slice A l.length ca) 31
    obtain ⟨a0, a1, a2, a3⟩ := block4 hb0
    clear hb0
    have e1 : (k == 1) = false := by simpa using k1
    have e2 : (k == 2) = false := by simpa using k2
    have e3 : (k == 3) = false := by simpa using k3
    have e4 : (k != 1) = true := by simpa using k1
    have e5 : (k != 2) = true := by simpa using k2
    have e6 : (k != 3) = true := by simpa using k3
    by_cases ht : t.toList = []
    · have hts := hsn.2 ht
      have hte : t.toList.isEmpty = true := by rw [ht]; rfl
      by_cases hn : n = 0
      · subst hn
        by_cases hk : 0 ≤ k ∧ k ≤ 6
        · obtain ⟨hk0, hk6⟩ := hk
          have HP : Hid (PX = true) := Lib.hid (by rw [← hPX]; unfold plainK; simp [*])
          clear hPX hsn
          go_enter Tryd.func70, Tryd.ntmps70
          go_wp2_with fail
          go_ret
          exact ⟨ret_b HP.out.symm, hB1⟩
        · by_cases hk0 : 0 ≤ k
          · have hk6 : 6 < k := by omega
            have hk7 : decide (k ≤ 6) = false := by simp; omega
            have HP : Hid (PX = false) := Lib.hid (by rw [← hPX]; unfold plainK; simp [*] <;> omega)
            clear hPX hsn
            go_enter Tryd.func70, Tryd.ntmps70
            go_wp2_with fail
            go_ret
            exact ⟨ret_b HP.out.symm, hB1⟩
          · have hk6 : k < 0 := by omega
            have HP : Hid (PX = false) := Lib.hid (by rw [← hPX]; unfold plainK; simp [*] <;> omega)
            clear hPX hsn
            go_enter Tryd.func70, Tryd.ntmps70
            go_wp2_with fail
            go_ret
            exact ⟨ret_b HP.out.symm, hB1⟩
      · have hn0 : (n != 0) = true := by simp; omega
        have hn2 : (n == 0) = false := by simp; omega
        have HP : Hid (PX = false) := Lib.hid (by rw [← hPX]; unfold plainK; simp [*])
        clear hPX hsn
        go_enter Tryd.func70, Tryd.ntmps70
        go_wp2_with fail
        go_ret
        exact ⟨ret_b HP.out.symm, hB1⟩
    · have hts : ¬ t.size = 0 := fun h => ht (hsn.1 h)
      have hte : t.toList.isEmpty = false := by cases h : t.toList with | nil => exact absurd h ht | cons => rfl
      have hte2 : (t.toList == []) = false := by cases h : t.toList with | nil => exact absurd h ht | cons => rfl
      have HP : Hid (PX = false) := Lib.hid (by rw [← hPX]; unfold plainK; simp [*])
      clear hPX hsn
      go_enter Tryd.func70, Tryd.ntmps70
      go_wp2_with fail
      go_ret
      exact ⟨ret_b HP.out.symm, hB1⟩
end Go.Proofs.YtaeldfnihocljaaDoor
