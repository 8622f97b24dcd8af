/- The program: is one part of a value right? The program: is one part of a value right? -/
import Derived.StillTailTactics
import Derived.Test.YtmnblgaefdahhaaGreatDoorCCmp
import Derived.Test.YtmnblgaefdahhaaGreatDoorCUtf
/- The program: is one part of a value right? -/
set_option linter.unusedVariables false
set_option linter.unusedSimpArgs false
namespace Go.Proofs.YtmnblgaefdahhaaGreatDoor
open Go.RowKit Go.Shelf
attribute [local go_sem] lt_succ_of

set_option maxRecDepth 100000 in
theorem plain_calls (x : V) (vx : Value) (w : World) (S : Nat → Prop) (hx : IsV w S x vx) (hT : Lib.Utf8Tabs 1 2 w) :
    Calls Tryz.prog 72 #[vx] w fun e w' => e = .returned (.bool (plainB x)) ∧ Below w.heap.size w w' := by
  obtain ⟨hb, A, ca, rfl, hca, hA⟩ := hx.eq
  clear hx
  have HT := Lib.hid hT
  clear hT
  cases x with
  | mk k n t l =>
  have hl1 := hb.l1
  have ht1 := hb.t1
  show Calls _ _ _ _ fun e w' => e = .returned (.bool (plainK k n t)) ∧ _
  simp only [V.kind, V.num, V.text, V.items] at *
  clear hb hA
  have hsn := size_nil t
  obtain ⟨PX, hPX⟩ : ∃ b, plainK k n t = b := ⟨_, rfl⟩
  rw [hPX]
  have cs : k = 1 ∨ k = 2 ∨ k = 3 ∨ (k ≠ 1 ∧ k ≠ 2 ∧ k ≠ 3) := by omega
  rcases cs with rfl | rfl | rfl | ⟨k1, k2, k3⟩
  · obtain ⟨w1, hw1, hB1, hsz, hb0⟩ := box1 w (.int .i64 1) (.int .i64 n) (.string t) (.slice A l.length ca) 39
    obtain ⟨a0, a1, a2, a3⟩ := block4 hb0
    clear hb0
    by_cases ht : t.toList = []
    · have hts := hsn.2 ht
      have hte : t.toList.isEmpty = true := by rw [ht]; rfl
      by_cases hn : n = 0
      · subst hn
        have HP : Hid (PX = true) := Lib.hid (by rw [← hPX]; unfold plainK; simp [*])
        clear hPX hsn
        go_enter Tryz.func72, Tryz.ntmps72
        go_wp2_with fail
        go_ret
        exact ⟨ret_b HP.out.symm, hB1⟩
      · have hn0 : (n != 0) = true := by simp; omega
        have hn2 : (n == 0) = false := by simp; omega
        by_cases hn1 : n = 1
        · subst hn1
          have HP : Hid (PX = true) := Lib.hid (by rw [← hPX]; unfold plainK; simp [*])
          clear hPX hsn
          go_enter Tryz.func72, Tryz.ntmps72
          go_wp2_with fail
          go_ret
          exact ⟨ret_b HP.out.symm, hB1⟩
        · have hn3 : (n == 1) = false := by simp; omega
          have HP : Hid (PX = false) := Lib.hid (by rw [← hPX]; unfold plainK; simp [*])
          clear hPX hsn
          go_enter Tryz.func72, Tryz.ntmps72
          go_wp2_with fail
          go_ret
          exact ⟨ret_b HP.out.symm, hB1⟩
    · have hts : ¬ t.size = 0 := fun h => ht (hsn.1 h)
      have hte : t.toList.isEmpty = false := by cases h : t.toList with | nil => exact absurd h ht | cons => rfl
      have hte2 : (t.toList == []) = false := by cases h : t.toList with | nil => exact absurd h ht | cons => rfl
      have HP : Hid (PX = false) := Lib.hid (by rw [← hPX]; unfold plainK; simp [*])
      clear hPX hsn
      go_enter Tryz.func72, Tryz.ntmps72
      go_wp2_with fail
      go_ret
      exact ⟨ret_b HP.out.symm, hB1⟩
  · obtain ⟨w1, hw1, hB1, hsz, hb0⟩ := box1 w (.int .i64 2) (.int .i64 n) (.string t) (.slice A l.length ca) 39
    obtain ⟨a0, a1, a2, a3⟩ := block4 hb0
    clear hb0
    by_cases ht : t.toList = []
    · have hts := hsn.2 ht
      have hte : t.toList.isEmpty = true := by rw [ht]; rfl
      have HP : Hid (PX = true) := Lib.hid (by rw [← hPX]; unfold plainK; simp [*])
      clear hPX hsn
      go_enter Tryz.func72, Tryz.ntmps72
      go_wp2_with fail
      go_ret
      exact ⟨ret_b HP.out.symm, hB1⟩
    · have hts : ¬ t.size = 0 := fun h => ht (hsn.1 h)
      have hte : t.toList.isEmpty = false := by cases h : t.toList with | nil => exact absurd h ht | cons => rfl
      have hte2 : (t.toList == []) = false := by cases h : t.toList with | nil => exact absurd h ht | cons => rfl
      have HP : Hid (PX = false) := Lib.hid (by rw [← hPX]; unfold plainK; simp [*])
      clear hPX hsn
      go_enter Tryz.func72, Tryz.ntmps72
      go_wp2_with fail
      go_ret
      exact ⟨ret_b HP.out.symm, hB1⟩
  · obtain ⟨w1, hw1, hB1, hsz, hb0⟩ := box1 w (.int .i64 3) (.int .i64 n) (.string t) (.slice A l.length ca) 39
    obtain ⟨a0, a1, a2, a3⟩ := block4 hb0
    clear hb0
    by_cases hn : n = 0
    · subst hn
      by_cases hs : t.size ≤ 256
      · have hs2 : decide (t.size ≤ 256) = true := by simpa using hs
        have HP : Hid (PX = utfFrom t 0) := Lib.hid (by rw [← hPX]; unfold plainK; simp [*])
        clear hPX hsn
        go_enter Tryz.func72, Tryz.ntmps72
        go_wp2_with (go_at_call 88; refine (utf_calls _ _ ht1 (tabs_below HT.out hB1)).mono ?_; rintro e w' ⟨rfl, hb3⟩)
        go_ret
        exact ⟨ret_b HP.out.symm, below_then hB1 hB1.size hb3⟩
      · have hs2 : decide (t.size ≤ 256) = false := by simpa using hs
        have HP : Hid (PX = false) := Lib.hid (by rw [← hPX]; unfold plainK; simp [*])
        clear hPX hsn
        go_enter Tryz.func72, Tryz.ntmps72
        go_wp2_with fail
        go_ret
        exact ⟨ret_b HP.out.symm, hB1⟩
    · have hn0 : (n != 0) = true := by simp; omega
      have hn2 : (n == 0) = false := by simp; omega
      have HP : Hid (PX = false) := Lib.hid (by rw [← hPX]; unfold plainK; simp [*])
      clear hPX hsn
      go_enter Tryz.func72, Tryz.ntmps72
      go_wp2_with fail
      go_ret
      exact ⟨ret_b HP.out.symm, hB1⟩
  · obtain ⟨w1, hw1, hB1, hsz, hb0⟩ := box1 w (.int .i64 k) (.int .i64 n) (.string t) (.slice A l.length ca) 39
    obtain ⟨a0, a1, a2, a3⟩ := block4 hb0
    clear hb0
    have e1 : (k == 1) = false := by simpa using k1
    have e2 : (k == 2) = false := by simpa using k2
    have e3 : (k == 3) = false := by simpa using k3
    have e4 : (k != 1) = true := by simpa using k1
    have e5 : (k != 2) = true := by simpa using k2
    have e6 : (k != 3) = true := by simpa using k3
    by_cases ht : t.toList = []
    · have hts := hsn.2 ht
      have hte : t.toList.isEmpty = true := by rw [ht]; rfl
      by_cases hn : n = 0
      · subst hn
        by_cases hk : 0 ≤ k ∧ k ≤ 6
        · obtain ⟨hk0, hk6⟩ := hk
          have HP : Hid (PX = true) := Lib.hid (by rw [← hPX]; unfold plainK; simp [*])
          clear hPX hsn
          go_enter Tryz.func72, Tryz.ntmps72
          go_wp2_with fail
          go_ret
          exact ⟨ret_b HP.out.symm, hB1⟩
        · by_cases hk0 : 0 ≤ k
          · have hk6 : 6 < k := by omega
            have hk7 : decide (k ≤ 6) = false := by simp; omega
            have HP : Hid (PX = false) := Lib.hid (by rw [← hPX]; unfold plainK; simp [*] <;> omega)
            clear hPX hsn
            go_enter Tryz.func72, Tryz.ntmps72
            go_wp2_with fail
            go_ret
            exact ⟨ret_b HP.out.symm, hB1⟩
          · have hk6 : k < 0 := by omega
            have HP : Hid (PX = false) := Lib.hid (by rw [← hPX]; unfold plainK; simp [*] <;> omega)
            clear hPX hsn
            go_enter Tryz.func72, Tryz.ntmps72
            go_wp2_with fail
            go_ret
            exact ⟨ret_b HP.out.symm, hB1⟩
      · have hn0 : (n != 0) = true := by simp; omega
        have hn2 : (n == 0) = false := by simp; omega
        have HP : Hid (PX = false) := Lib.hid (by rw [← hPX]; unfold plainK; simp [*])
        clear hPX hsn
        go_enter Tryz.func72, Tryz.ntmps72
        go_wp2_with fail
        go_ret
        exact ⟨ret_b HP.out.symm, hB1⟩
    · have hts : ¬ t.size = 0 := fun h => ht (hsn.1 h)
      have hte : t.toList.isEmpty = false := by cases h : t.toList with | nil => exact absurd h ht | cons => rfl
      have hte2 : (t.toList == []) = false := by cases h : t.toList with | nil => exact absurd h ht | cons => rfl
      have HP : Hid (PX = false) := Lib.hid (by rw [← hPX]; unfold plainK; simp [*])
      clear hPX hsn
      go_enter Tryz.func72, Tryz.ntmps72
      go_wp2_with fail
      go_ret
      exact ⟨ret_b HP.out.symm, hB1⟩
end Go.Proofs.YtmnblgaefdahhaaGreatDoor

/- The program: is one part of a value right? -/
set_option linter.unusedVariables false
set_option linter.unusedSimpArgs false
namespace Go.Proofs.YtmnblgaefdahhaaGreatDoor
open Go.RowKit Go.Shelf
attribute [local go_sem] lt_succ_of

set_option maxHeartbeats 1000000 in
set_option maxRecDepth 100000 in
theorem form_calls (x : V) (vx : Value) (w : World) (S : Nat → Prop) (hx : IsV w S x vx) :
    Calls Tryz.prog 73 #[vx] w fun e w' => e = .returned (.bool (formB x)) ∧ Below w.heap.size w w' := by
  obtain ⟨hb, A, ca, rfl, hca, hA⟩ := hx.eq
  clear hx
  cases x with
  | mk k n t l =>
  have hl1 := hb.l1
  show Calls _ _ _ _ fun e w' => e = .returned (.bool (formK k l)) ∧ _
  simp only [V.kind, V.num, V.text, V.items] at *
  clear hb
  obtain ⟨OKX, hOK⟩ : ∃ b, formK k l = b := ⟨_, rfl⟩
  rw [hOK]
  have cs : k = 4 ∨ k = 5 ∨ k = 6 ∨ (k ≠ 4 ∧ k ≠ 5 ∧ k ≠ 6) := by omega
  rcases cs with rfl | rfl | rfl | ⟨k4, k5, k6⟩
  · obtain ⟨w1, hw1, hB1, hsz, hb0⟩ := box1 w (.int .i64 4) (.int .i64 n) (.string t) (.slice A l.length ca) 39
    obtain ⟨a0, a1, a2, a3⟩ := block4 hb0
    clear hb0
    have HO : Hid (OKX = true) := Lib.hid (by rw [← hOK]; unfold formK; simp)
    clear hOK
    go_enter Tryz.func73, Tryz.ntmps73
    go_wp2_with fail
    go_ret
    exact ⟨ret_b HO.out.symm, hB1⟩
  · obtain ⟨w1, hw1, hB1, hsz, hb0⟩ := box1 w (.int .i64 5) (.int .i64 n) (.string t) (.slice A l.length ca) 39
    obtain ⟨a0, a1, a2, a3⟩ := block4 hb0
    clear hb0
    have HO : Hid (OKX = ascFrom 0 l 1) := Lib.hid (by rw [← hOK]; unfold formK; simp)
    clear hOK
    go_enter Tryz.func73, Tryz.ntmps73
    go_wp2_with fail
    clear a0 a1 a2
    have hw1 := Lib.hid hw1
    go_loopw [4] (fun v wr => ∃ i : Nat, v = .int .i64 i ∧ 1 ≤ i ∧ i ≤ l.length + 2 ∧ Hid (ascFrom 0 l i = OKX) ∧ Below w1.heap.size w1 wr) (fun v _ => l.length + 2 - (intOf v).toNat)
    case atStart => exact ⟨1, rfl, by omega, by omega, Lib.hid HO.out.symm, Below.refl _ _⟩
    case round =>
      obtain ⟨i, rfl, hi1, hi2, hc, hbl⟩ := hrel
      have a3' := cellB hbl a3
      have hA' := hA.below (below_then hB1 hB1.size hbl)
      have hf := below_then hB1 hB1.size hbl
      clear a3 hA HO
      by_cases hlt : i < l.length
      · obtain ⟨ad, A1, cap1, rfl, hlt1, hbd, f0, f1, f2, f3, hl, hLA⟩ := hA'.at (i - 1) (by omega)
        obtain ⟨ad2, B1, cap2, he, hlt2, hbd', g0, g1, g2, g3, hl', hLA'⟩ := hA'.at i hlt
        obtain rfl : ad = ad2 := Option.some.inj he
        clear he
        have HX := IsV.mk hbd hl hLA
        have HY := IsV.mk hbd' hl' hLA'
        have hi0 : ((i : Int) - 1).toNat = i - 1 := by omega
        have hi3 : 0 ≤ (i : Int) - 1 := by omega
        have hi4 : (i : Int) - 1 < l.length := by omega
        have hi5 : IntKind.i64.wrap ((i : Int) - 1) = (i : Int) - 1 := IntWalk.i64_in _ (by omega)
        have hi6 : (1 : Int) ≤ i := by omega
        have hi7 : (i : Int) < l.length + 1 := by omega
        have hi8 : (i : Int) < l.length := by omega
        have HC := compare_calls (itemAt l (i - 1)) (itemAt l i) _ _ wr.drew S S (HX.keep Keeps.drew) (HY.keep Keeps.drew)
        have HC := Lib.hid HC
        by_cases hge : 0 ≤ cmpV (itemAt l (i - 1)) (itemAt l i)
        · have HU : Hid (OKX = false) := Lib.hid (by rw [← hc.out, ascFrom_bad hlt hge])
          go_wp2_with fail
          go_still_tail 12, (by kernel_rfl)
          go_wp2_with (go_at_call 59; go_loud (refine HC.out.mono ?_); rintro e w3 ⟨rfl, hb3⟩)
          go_ret
          exact ⟨ret_b HU.out.symm, below_then hf hf.size (below_undrew hb3)⟩
        · have HU : Hid (ascFrom 0 l (i + 1) = OKX) := Lib.hid (by rw [← hc.out, ascFrom_good hlt (Int.not_le.1 hge)])
          go_wp2_with fail
          go_still_tail 12, (by kernel_rfl)
          go_wp2_with (go_at_call 59; go_loud (refine HC.out.mono ?_); rintro e w3 ⟨rfl, hb3⟩)
          go_roundw
          case rel => exact ⟨i + 1, by go_num, by omega, by omega, HU, below_then hbl hbl.size (below_undrew hb3)⟩
          case measure => simp [intOf]; omega
      · have HU : Hid (OKX = true) := Lib.hid (by rw [← hc.out, ascFrom_end (by omega)])
        go_wp2_with fail
        go_ret
        exact ⟨ret_b HU.out.symm, hf⟩
  · obtain ⟨w1, hw1, hB1, hsz, hb0⟩ := box1 w (.int .i64 6) (.int .i64 n) (.string t) (.slice A l.length ca) 39
    obtain ⟨a0, a1, a2, a3⟩ := block4 hb0
    clear hb0
    by_cases hm : l.length % 2 = 1
    · have HO : Hid (OKX = false) := Lib.hid (by rw [← hOK]; unfold formK; simp [hm])
      have hm2 : (((l.length : Int) % 2) == 1) = true := by simp; omega
      have hm3 : ((l.length : Int).tmod 2 == 1) = true := by rw [Int.tmod_eq_emod_of_nonneg (by omega)]; exact hm2
      clear hOK hm
      go_enter Tryz.func73, Tryz.ntmps73
      go_wp2_with fail
      go_ret
      exact ⟨ret_b HO.out.symm, hB1⟩
    · have HO : Hid (OKX = ascFrom 1 l 2) := Lib.hid (by rw [← hOK]; unfold formK; simp [hm])
      have hm2 : (((l.length : Int) % 2) == 1) = false := by simp; omega
      have hm3 : ((l.length : Int).tmod 2 == 1) = false := by rw [Int.tmod_eq_emod_of_nonneg (by omega)]; exact hm2
      clear hOK hm
      go_enter Tryz.func73, Tryz.ntmps73
      go_wp2_with fail
      clear a0 a1 a2
      have hw1 := Lib.hid hw1
      go_loopw [4] (fun v wr => ∃ i : Nat, v = .int .i64 i ∧ 2 ≤ i ∧ i ≤ l.length + 2 ∧ Hid (ascFrom 1 l i = OKX) ∧ Below w1.heap.size w1 wr) (fun v _ => l.length + 2 - (intOf v).toNat)
      case atStart => exact ⟨2, rfl, by omega, by omega, Lib.hid HO.out.symm, Below.refl _ _⟩
      case round =>
        obtain ⟨i, rfl, hi1, hi2, hc, hbl⟩ := hrel
        have a3' := cellB hbl a3
        have hA' := hA.below (below_then hB1 hB1.size hbl)
        have hf := below_then hB1 hB1.size hbl
        clear a3 hA HO
        by_cases hlt : i < l.length
        · obtain ⟨ad, A1, cap1, rfl, hlt1, hbd, f0, f1, f2, f3, hl, hLA⟩ := hA'.at (i - 2) (by omega)
          obtain ⟨ad2, B1, cap2, he, hlt2, hbd', g0, g1, g2, g3, hl', hLA'⟩ := hA'.at i hlt
          obtain rfl : ad = ad2 := Option.some.inj he
          clear he
          have HX := IsV.mk hbd hl hLA
          have HY := IsV.mk hbd' hl' hLA'
          have hi0 : ((i : Int) - 2).toNat = i - 2 := by omega
          have hi3 : 0 ≤ (i : Int) - 2 := by omega
          have hi4 : (i : Int) - 2 < l.length := by omega
          have hi5 : IntKind.i64.wrap ((i : Int) - 2) = (i : Int) - 2 := IntWalk.i64_in _ (by omega)
          have hi6 : (2 : Int) ≤ i := by omega
          have hi7 : (i : Int) < l.length + 2 := by omega
          have hi8 : (i : Int) < l.length := by omega
          have HC := compare_calls (itemAt l (i - 2)) (itemAt l i) _ _ wr.drew S S (HX.keep Keeps.drew) (HY.keep Keeps.drew)
          have HC := Lib.hid HC
          by_cases hge : 0 ≤ cmpV (itemAt l (i - 2)) (itemAt l i)
          · have HU : Hid (OKX = false) := Lib.hid (by rw [← hc.out, ascFrom_bad hlt hge])
            go_wp2_with fail
            go_still_tail 12, (by kernel_rfl)
            go_wp2_with (go_at_call 59; go_loud (refine HC.out.mono ?_); rintro e w3 ⟨rfl, hb3⟩)
            go_ret
            exact ⟨ret_b HU.out.symm, below_then hf hf.size (below_undrew hb3)⟩
          · have HU : Hid (ascFrom 1 l (i + 2) = OKX) := Lib.hid (by rw [← hc.out, ascFrom_good hlt (Int.not_le.1 hge)])
            go_wp2_with fail
            go_still_tail 12, (by kernel_rfl)
            go_wp2_with (go_at_call 59; go_loud (refine HC.out.mono ?_); rintro e w3 ⟨rfl, hb3⟩)
            go_roundw
            case rel => exact ⟨i + 2, by go_num, by omega, by omega, HU, below_then hbl hbl.size (below_undrew hb3)⟩
            case measure => simp [intOf]; omega
        · have HU : Hid (OKX = true) := Lib.hid (by rw [← hc.out, ascFrom_end (by omega)])
          go_wp2_with fail
          go_ret
          exact ⟨ret_b HU.out.symm, hf⟩
  · obtain ⟨w1, hw1, hB1, hsz, hb0⟩ := box1 w (.int .i64 k) (.int .i64 n) (.string t) (.slice A l.length ca) 39
    obtain ⟨a0, a1, a2, a3⟩ := block4 hb0
    clear hb0
    have e4 : (k == 4) = false := by simpa using k4
    have e5 : (k == 5) = false := by simpa using k5
    have e6 : (k == 6) = false := by simpa using k6
    have HO : Hid (OKX = ((l.length : Int) == 0)) := Lib.hid (by rw [← hOK]; unfold formK; rw [if_neg k4, if_neg k6, if_neg k5]; by_cases h : l.length = 0 <;> simp [h])
    clear hOK
    go_enter Tryz.func73, Tryz.ntmps73
    go_wp2_with fail
    go_ret
    exact ⟨ret_b HO.out.symm, hB1⟩
end Go.Proofs.YtmnblgaefdahhaaGreatDoor
