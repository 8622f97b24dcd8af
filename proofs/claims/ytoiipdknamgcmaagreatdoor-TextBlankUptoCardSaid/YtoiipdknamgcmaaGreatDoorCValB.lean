/- The reference: is one part of a value right? The reference: is one part of a value right? The reference: is one part of a value right? -/
import Derived.Test.YtoiipdknamgcmaaGreatDoorCValA
import Derived.Test.YtoiipdknamgcmaaGreatDoorCUtf
/- The reference: is one part of a value right? -/
set_option linter.unusedVariables false
set_option linter.unusedSimpArgs false
namespace Go.Proofs.YtoiipdknamgcmaaGreatDoor
open Go.RowKit Go.Shelf
attribute [local go_sem] lt_succ_of

set_option maxHeartbeats 4000000 in
set_option maxRecDepth 100000 in
theorem refown_5 (n : Int) (t : ByteArray) (l : List V) (A : Option Addr) (ca : Nat) (w : World) (S : Nat → Prop) (hca : l.length ≤ ca) (hA : LA w S l A) (hl1 : l.length ≤ 4294967296) (ht1 : t.size ≤ 140737488355328) :
    Calls Tryz.prog 51 #[.agg #[.int .i64 5, .int .i64 n, .string t, .slice A l.length ca]] w fun e w' => e = .returned (.bool (okB (.mk 5 n t l))) ∧ Below w.heap.size w w' := by
  obtain ⟨w1, hw1, hB1, hsz, hb0⟩ := box1 w (.int .i64 5) (.int .i64 n) (.string t) (.slice A l.length ca) 24
  obtain ⟨a0, a1, a2, a3⟩ := block4 hb0
  clear hb0
  have hsn := size_nil t
  have HK := Lib.hid (ok_5 n t l)
  obtain ⟨OKX, hOK⟩ : ∃ b, okB (.mk 5 n t l) = b := ⟨_, rfl⟩
  rw [hOK] at HK ⊢
  clear hOK
  by_cases hn : n = 0
  · subst hn
    by_cases ht : t.toList = []
    · have hte : t.toList.isEmpty = true := by rw [ht]; rfl
      have hts := hsn.2 ht
      have HO : Hid (OKX = ascFrom 0 l 1) := Lib.hid (Bool.eq_iff_iff.2 (HK.out.trans ⟨fun h => h.2.2, fun h => ⟨rfl, hts, h⟩⟩))
      clear HK hsn
      clear hts
      go_enter Tryz.func51, Tryz.ntmps51
      go_wp2_with (first | (go_at_call 70; refine (coll_calls _ _).mono ?_; rintro e w' ⟨rfl, rfl⟩) | (go_at_call 69; refine (letters_calls _ _ (by assumption)).mono ?_; rintro e w' ⟨rfl, rfl⟩))
      clear a0 a1 a2
      have hw1 := Lib.hid hw1
      go_loopw [4] (fun v wr => ∃ i : Nat, v = .int .i64 i ∧ 1 ≤ i ∧ i ≤ l.length + 2 ∧ Hid (ascFrom 0 l i = OKX) ∧ Below w1.heap.size w1 wr) (fun v _ => l.length + 2 - (intOf v).toNat)
      case atStart => exact ⟨1, rfl, by omega, by omega, Lib.hid HO.out.symm, Below.refl _ _⟩
      case round =>
        obtain ⟨i, rfl, hi1, hi2, hc, hbl⟩ := hrel
        have a3' := cellB hbl a3
        have hA' := hA.below (below_then hB1 hB1.size hbl)
        have hf := below_then hB1 hB1.size hbl
        clear a3 hA HO
        by_cases hlt : i < l.length
        · obtain ⟨ad, A1, cap1, rfl, hlt1, hbd, f0, f1, f2, f3, hl, hLA⟩ := hA'.at (i - 1) (by omega)
          obtain ⟨ad2, B1, cap2, he, hlt2, hbd', g0, g1, g2, g3, hl', hLA'⟩ := hA'.at i hlt
          obtain rfl : ad = ad2 := Option.some.inj he
          clear he
          have HX := IsV.mk hbd hl hLA
          have HY := IsV.mk hbd' hl' hLA'
          have hi0 : ((i : Int) - 1).toNat = i - 1 := by omega
          have hi3 : 0 ≤ (i : Int) - 1 := by omega
          have hi4 : (i : Int) - 1 < l.length := by omega
          have hi5 : IntKind.i64.wrap ((i : Int) - 1) = (i : Int) - 1 := IntWalk.i64_in _ (by omega)
          have hi6 : (1 : Int) ≤ i := by omega
          have hi7 : (i : Int) < l.length + 1 := by omega
          have hi8 : (i : Int) < l.length := by omega
          have HC := cmpref_calls (itemAt l (i - 1)) (itemAt l i) _ _ wr.drew S S (HX.keep Keeps.drew) (HY.keep Keeps.drew)
          have HC := Lib.hid HC
          by_cases hge : 0 ≤ cmpV (itemAt l (i - 1)) (itemAt l i)
          · have HU : Hid (OKX = false) := Lib.hid (by rw [← hc.out, ascFrom_bad hlt hge])
            go_wp2_with fail
            go_still_tail 12, (by kernel_rfl)
            go_wp2_with (go_at_call 71; go_loud (refine HC.out.mono ?_); rintro e w3 ⟨rfl, hb3⟩)
            go_ret
            exact ⟨ret_b HU.out.symm, below_then hf hf.size (below_undrew hb3)⟩
          · have HU : Hid (ascFrom 0 l (i + 1) = OKX) := Lib.hid (by rw [← hc.out, ascFrom_good hlt (Int.not_le.1 hge)])
            go_wp2_with fail
            go_still_tail 12, (by kernel_rfl)
            go_wp2_with (go_at_call 71; go_loud (refine HC.out.mono ?_); rintro e w3 ⟨rfl, hb3⟩)
            go_roundw
            case rel => exact ⟨i + 1, by go_num, by omega, by omega, HU, below_then hbl hbl.size (below_undrew hb3)⟩
            case measure => simp [intOf]; omega
        · have HU : Hid (OKX = true) := Lib.hid (by rw [← hc.out, ascFrom_end (by omega)])
          go_wp2_with fail
          go_ret
          exact ⟨ret_b HU.out.symm, hf⟩
    · have hte : t.toList.isEmpty = false := by cases h : t.toList with | nil => exact absurd h ht | cons => rfl
      have hte2 : (t.toList == []) = false := by cases h : t.toList with | nil => exact absurd h ht | cons => rfl
      have hts : ¬ t.size = 0 := fun h => ht (hsn.1 h)
      have HOK : Hid (OKX = false) := Lib.hid (by cases OKX with | false => rfl | true => exact absurd (HK.out.1 rfl) (by simp [hts]))
      clear HK hsn
      clear hts
      go_enter Tryz.func51, Tryz.ntmps51
      go_wp2_with (first | (go_at_call 70; refine (coll_calls _ _).mono ?_; rintro e w' ⟨rfl, rfl⟩) | (go_at_call 69; refine (letters_calls _ _ (by assumption)).mono ?_; rintro e w' ⟨rfl, rfl⟩))
      go_ret
      exact ⟨ret_b HOK.out.symm, hB1⟩
  · have hn0 : (n != 0) = true := by simp; omega
    have HOK : Hid (OKX = false) := Lib.hid (by cases OKX with | false => rfl | true => exact absurd (HK.out.1 rfl) (by simp [hn]))
    clear HK hsn
    go_enter Tryz.func51, Tryz.ntmps51
    go_wp2_with (first | (go_at_call 70; refine (coll_calls _ _).mono ?_; rintro e w' ⟨rfl, rfl⟩) | (go_at_call 69; refine (letters_calls _ _ (by assumption)).mono ?_; rintro e w' ⟨rfl, rfl⟩))
    go_ret
    exact ⟨ret_b HOK.out.symm, hB1⟩
end Go.Proofs.YtoiipdknamgcmaaGreatDoor

/- The reference: is one part of a value right? -/
set_option linter.unusedVariables false
set_option linter.unusedSimpArgs false
namespace Go.Proofs.YtoiipdknamgcmaaGreatDoor
open Go.RowKit Go.Shelf
attribute [local go_sem] lt_succ_of

set_option maxHeartbeats 4000000 in
set_option maxRecDepth 100000 in
theorem refown_6 (n : Int) (t : ByteArray) (l : List V) (A : Option Addr) (ca : Nat) (w : World) (S : Nat → Prop) (hca : l.length ≤ ca) (hA : LA w S l A) (hl1 : l.length ≤ 4294967296) (ht1 : t.size ≤ 140737488355328) :
    Calls Tryz.prog 51 #[.agg #[.int .i64 6, .int .i64 n, .string t, .slice A l.length ca]] w fun e w' => e = .returned (.bool (okB (.mk 6 n t l))) ∧ Below w.heap.size w w' := by
  obtain ⟨w1, hw1, hB1, hsz, hb0⟩ := box1 w (.int .i64 6) (.int .i64 n) (.string t) (.slice A l.length ca) 24
  obtain ⟨a0, a1, a2, a3⟩ := block4 hb0
  clear hb0
  have hsn := size_nil t
  have HK := Lib.hid (ok_6 n t l)
  obtain ⟨OKX, hOK⟩ : ∃ b, okB (.mk 6 n t l) = b := ⟨_, rfl⟩
  rw [hOK] at HK ⊢
  clear hOK
  by_cases hn : n = 0
  · subst hn
    by_cases ht : t.toList = []
    · have hte : t.toList.isEmpty = true := by rw [ht]; rfl
      have hts := hsn.2 ht
      by_cases hm : l.length % 2 = 0
      · have HO : Hid (OKX = ascFrom 1 l 2) := Lib.hid (Bool.eq_iff_iff.2 (HK.out.trans ⟨fun h => h.2.2.2, fun h => ⟨rfl, hts, hm, h⟩⟩))
        have hm2 : (((l.length : Int) % 2) != 0) = false := by simp; omega
        have hm3 : ((l.length : Int).tmod 2 != 0) = false := by rw [Int.tmod_eq_emod_of_nonneg (by omega)]; exact hm2
        clear HK hsn
        clear hts hm
        go_enter Tryz.func51, Tryz.ntmps51
        go_wp2_with (first | (go_at_call 70; refine (coll_calls _ _).mono ?_; rintro e w' ⟨rfl, rfl⟩) | (go_at_call 69; refine (letters_calls _ _ (by assumption)).mono ?_; rintro e w' ⟨rfl, rfl⟩))
        clear a0 a1 a2
        have hw1 := Lib.hid hw1
        go_loopw [4] (fun v wr => ∃ i : Nat, v = .int .i64 i ∧ 2 ≤ i ∧ i ≤ l.length + 2 ∧ Hid (ascFrom 1 l i = OKX) ∧ Below w1.heap.size w1 wr) (fun v _ => l.length + 2 - (intOf v).toNat)
        case atStart => exact ⟨2, rfl, by omega, by omega, Lib.hid HO.out.symm, Below.refl _ _⟩
        case round =>
          obtain ⟨i, rfl, hi1, hi2, hc, hbl⟩ := hrel
          have a3' := cellB hbl a3
          have hA' := hA.below (below_then hB1 hB1.size hbl)
          have hf := below_then hB1 hB1.size hbl
          clear a3 hA HO
          by_cases hlt : i < l.length
          · obtain ⟨ad, A1, cap1, rfl, hlt1, hbd, f0, f1, f2, f3, hl, hLA⟩ := hA'.at (i - 2) (by omega)
            obtain ⟨ad2, B1, cap2, he, hlt2, hbd', g0, g1, g2, g3, hl', hLA'⟩ := hA'.at i hlt
            obtain rfl : ad = ad2 := Option.some.inj he
            clear he
            have HX := IsV.mk hbd hl hLA
            have HY := IsV.mk hbd' hl' hLA'
            have hi0 : ((i : Int) - 2).toNat = i - 2 := by omega
            have hi3 : 0 ≤ (i : Int) - 2 := by omega
            have hi4 : (i : Int) - 2 < l.length := by omega
            have hi5 : IntKind.i64.wrap ((i : Int) - 2) = (i : Int) - 2 := IntWalk.i64_in _ (by omega)
            have hi6 : (2 : Int) ≤ i := by omega
            have hi7 : (i : Int) < l.length + 2 := by omega
            have hi8 : (i : Int) < l.length := by omega
            have HC := cmpref_calls (itemAt l (i - 2)) (itemAt l i) _ _ wr.drew S S (HX.keep Keeps.drew) (HY.keep Keeps.drew)
            have HC := Lib.hid HC
            by_cases hge : 0 ≤ cmpV (itemAt l (i - 2)) (itemAt l i)
            · have HU : Hid (OKX = false) := Lib.hid (by rw [← hc.out, ascFrom_bad hlt hge])
              go_wp2_with fail
              go_still_tail 12, (by kernel_rfl)
              go_wp2_with (go_at_call 71; go_loud (refine HC.out.mono ?_); rintro e w3 ⟨rfl, hb3⟩)
              go_ret
              exact ⟨ret_b HU.out.symm, below_then hf hf.size (below_undrew hb3)⟩
            · have HU : Hid (ascFrom 1 l (i + 2) = OKX) := Lib.hid (by rw [← hc.out, ascFrom_good hlt (Int.not_le.1 hge)])
              go_wp2_with fail
              go_still_tail 12, (by kernel_rfl)
              go_wp2_with (go_at_call 71; go_loud (refine HC.out.mono ?_); rintro e w3 ⟨rfl, hb3⟩)
              go_roundw
              case rel => exact ⟨i + 2, by go_num, by omega, by omega, HU, below_then hbl hbl.size (below_undrew hb3)⟩
              case measure => simp [intOf]; omega
          · have HU : Hid (OKX = true) := Lib.hid (by rw [← hc.out, ascFrom_end (by omega)])
            go_wp2_with fail
            go_ret
            exact ⟨ret_b HU.out.symm, hf⟩
      · have HOK : Hid (OKX = false) := Lib.hid (by cases OKX with | false => rfl | true => exact absurd (HK.out.1 rfl) (by simp [hm]))
        have hm2 : (((l.length : Int) % 2) != 0) = true := by simp; omega
        have hm3 : ((l.length : Int).tmod 2 != 0) = true := by rw [Int.tmod_eq_emod_of_nonneg (by omega)]; exact hm2
        clear HK hsn
        clear hts hm
        go_enter Tryz.func51, Tryz.ntmps51
        go_wp2_with (first | (go_at_call 70; refine (coll_calls _ _).mono ?_; rintro e w' ⟨rfl, rfl⟩) | (go_at_call 69; refine (letters_calls _ _ (by assumption)).mono ?_; rintro e w' ⟨rfl, rfl⟩))
        go_ret
        exact ⟨ret_b HOK.out.symm, hB1⟩
    · have hte : t.toList.isEmpty = false := by cases h : t.toList with | nil => exact absurd h ht | cons => rfl
      have hte2 : (t.toList == []) = false := by cases h : t.toList with | nil => exact absurd h ht | cons => rfl
      have hts : ¬ t.size = 0 := fun h => ht (hsn.1 h)
      have HOK : Hid (OKX = false) := Lib.hid (by cases OKX with | false => rfl | true => exact absurd (HK.out.1 rfl) (by simp [hts]))
      clear HK hsn
      clear hts
      go_enter Tryz.func51, Tryz.ntmps51
      go_wp2_with (first | (go_at_call 70; refine (coll_calls _ _).mono ?_; rintro e w' ⟨rfl, rfl⟩) | (go_at_call 69; refine (letters_calls _ _ (by assumption)).mono ?_; rintro e w' ⟨rfl, rfl⟩))
      go_ret
      exact ⟨ret_b HOK.out.symm, hB1⟩
  · have hn0 : (n != 0) = true := by simp; omega
    have HOK : Hid (OKX = false) := Lib.hid (by cases OKX with | false => rfl | true => exact absurd (HK.out.1 rfl) (by simp [hn]))
    clear HK hsn
    go_enter Tryz.func51, Tryz.ntmps51
    go_wp2_with (first | (go_at_call 70; refine (coll_calls _ _).mono ?_; rintro e w' ⟨rfl, rfl⟩) | (go_at_call 69; refine (letters_calls _ _ (by assumption)).mono ?_; rintro e w' ⟨rfl, rfl⟩))
    go_ret
    exact ⟨ret_b HOK.out.symm, hB1⟩
end Go.Proofs.YtoiipdknamgcmaaGreatDoor

/- The reference: is one part of a value right? -/
set_option linter.unusedVariables false
set_option linter.unusedSimpArgs false
namespace Go.Proofs.YtoiipdknamgcmaaGreatDoor
open Go.RowKit Go.Shelf
attribute [local go_sem] lt_succ_of

theorem refown_calls (x : V) (vx : Value) (w : World) (S : Nat → Prop) (hx : IsV w S x vx) :
    Calls Tryz.prog 51 #[vx] w fun e w' => e = .returned (.bool (okB x)) ∧ Below w.heap.size w w' := by
  obtain ⟨hb, A, ca, rfl, hca, hA⟩ := hx.eq
  clear hx
  cases x with
  | mk k n t l =>
  have hl1 := hb.l1
  have ht1 := hb.t1
  simp only [V.kind, V.num, V.text, V.items] at *
  clear hb
  by_cases h1 : k < 0 ∨ 6 < k
  · rw [ok_out h1]
    obtain ⟨w1, hw1, hB1, hsz, hb0⟩ := box1 w (.int .i64 k) (.int .i64 n) (.string t) (.slice A l.length ca) 24
    obtain ⟨a0, a1, a2, a3⟩ := block4 hb0
    clear hb0
    rcases h1 with h1 | h1
    all_goals
      go_enter Tryz.func51, Tryz.ntmps51
      go_wp2_with fail
      go_ret
      exact ⟨rfl, hB1⟩
  · have cs : k = 0 ∨ k = 1 ∨ k = 2 ∨ k = 3 ∨ k = 4 ∨ k = 5 ∨ k = 6 := by omega
    rcases cs with rfl | rfl | rfl | rfl | rfl | rfl | rfl
    · exact refown_0 n t l A ca w S hca hA hl1 ht1
    · exact refown_1 n t l A ca w S hca hA hl1 ht1
    · exact refown_2 n t l A ca w S hca hA hl1 ht1
    · exact refown_3 n t l A ca w S hca hA hl1 ht1
    · exact refown_4 n t l A ca w S hca hA hl1 ht1
    · exact refown_5 n t l A ca w S hca hA hl1 ht1
    · exact refown_6 n t l A ca w S hca hA hl1 ht1
end Go.Proofs.YtoiipdknamgcmaaGreatDoor
