/- Equal values. -/
import Derived.Test.YtmnblgaefdahhaaGreatDoorProg
import Derived.Deep.QuietTactic
import Derived.BigQuiet
import Derived.StillTailTactics
import Derived.Test.YtmnblgaefdahhaaGreatDoorCUtf

set_option linter.unusedVariables false
set_option linter.unusedSimpArgs false
namespace Go.Proofs.YtmnblgaefdahhaaGreatDoor
open Go.RowKit Go.Shelf
attribute [local go_sem] lt_succ_of

theorem text_ne {a b : ByteArray} (h : a ≠ b) : (a.toList == b.toList) = false := by
  rw [beq_eq_false_iff_ne]
  intro e
  rw [Lib.toList_data, Lib.toList_data] at e
  apply h
  cases a; cases b
  congr
  exact Array.toList_inj.1 e
set_option maxHeartbeats 1000000 in
set_option maxRecDepth 100000 in
theorem same_calls (x : V) : ∀ (y : V) (vx vy : Value) (w : World) (S S' : Nat → Prop) (hx : IsV w S x vx) (hy : IsV w S' y vy),
    Calls Tryz.prog 20 #[vx, vy] w fun e w' => e = .returned (.bool (eqV x y)) ∧ Below w.heap.size w w' := by
  induction x using V.induct with
  | h x ih =>
  intro y vx vy w S S' hx hy
  obtain ⟨hbx, A, ca, rfl, hca, hA⟩ := hx.eq
  obtain ⟨hby, B, cb, rfl, hcb, hB⟩ := hy.eq
  clear hx hy
  have IH := Lib.hid ih
  clear ih
  obtain ⟨w1, hw1, hB1, hsz, hb0, hb1⟩ := boxes2 w (.int .i64 x.kind) (.int .i64 x.num) (.string x.text) (.slice A x.items.length ca) (.int .i64 y.kind) (.int .i64 y.num) (.string y.text) (.slice B y.items.length cb) 39
  obtain ⟨a0, a1, a2, a3⟩ := block4 hb0
  obtain ⟨e0, e1, e2, e3⟩ := block4 hb1
  clear hb0 hb1
  have hEQ := eqV_eq x y
  obtain ⟨EX, hEX⟩ : ∃ b, eqV x y = b := ⟨_, rfl⟩
  rw [hEX] at hEQ ⊢
  clear hEX
  by_cases h1 : x.kind = y.kind
  · have k1 : (x.kind != y.kind) = false := by simpa using h1
    by_cases h2 : x.num = y.num
    · have k2 : (x.num != y.num) = false := by simpa using h2
      by_cases h3 : x.text = y.text
      · have k3 : (x.text.toList == y.text.toList) = true := by simp [h3]
        by_cases h4 : x.items.length = y.items.length
        · have k4 : ((x.items.length : Int) != (y.items.length : Int)) = false := by simp [h4]
          have HE : Hid (EX = eqL x.items y.items) := Lib.hid (by rw [hEQ]; simp [h1, h2, h3])
          have hl1 := hbx.l1
          have H4 := Lib.hid h4
          clear h1 h2 h3 h4 hEQ
          go_enter Tryz.func20, Tryz.ntmps20
          go_wp2_with fail
          clear k1 k2 k3 k4 a0 a1 a2 e0 e1 e2
          have hw1 := Lib.hid hw1
          go_loopw [37] (fun v wr => ∃ i : Nat, v = .int .i64 i ∧ i ≤ x.items.length ∧ Hid (eqL (x.items.drop i) (y.items.drop i) = EX) ∧ Below w1.heap.size w1 wr) (fun v _ => x.items.length - (intOf v).toNat)
          case atStart => exact ⟨0, rfl, by omega, Lib.hid HE.out.symm, Below.refl _ _⟩
          case round =>
            obtain ⟨i, rfl, hi, hc, hbl⟩ := hrel
            have a3' := cellB hbl a3
            have e3' := cellB hbl e3
            have hf := below_then hB1 hB1.size hbl
            have hA' := hA.below hf
            have hB' := hB.below hf
            clear a3 e3 hA hB HE
            by_cases hlt : i < x.items.length
            · have hlt2 : i < y.items.length := by have := H4.out; omega
              obtain ⟨ad, A1, cap1, rfl, hla, hbd, f0, f1, f2, f3, hl, hLA⟩ := hA'.at i hlt
              obtain ⟨bd, B1, cap2, rfl, hlb, hbd', g0, g1, g2, g3, hl', hLA'⟩ := hB'.at i hlt2
              have HX := IsV.mk hbd hl hLA
              have HY := IsV.mk hbd' hl' hLA'
              have HC := IH.out _ (itemAt_mem hlt) (itemAt y.items i) _ _ wr.drew S S' (HX.keep Keeps.drew) (HY.keep Keeps.drew)
              have HC := Lib.hid HC
              have hU := eqL_drop hlt hlt2
              rw [hc.out] at hU
              cases hE : eqV (itemAt x.items i) (itemAt y.items i) with
              | true =>
                rw [hE] at hU HC
                have HU : Hid (eqL (x.items.drop (i + 1)) (y.items.drop (i + 1)) = EX) := Lib.hid (by rw [hU]; simp)
                clear hU hE
                go_wp2_with fail
                go_still_tail 10, (by kernel_rfl)
                go_wp2_with (go_at_call 20; go_loud (refine HC.out.mono ?_); rintro e w3 ⟨rfl, hb3⟩)
                go_roundw
                case rel => exact ⟨i + 1, by go_num, by omega, HU, below_then hbl hbl.size (below_undrew hb3)⟩
                case measure => simp [intOf]; omega
              | false =>
                rw [hE] at hU HC
                have HU : Hid (EX = false) := Lib.hid (by rw [hU]; simp)
                clear hU hE
                go_wp2_with fail
                go_still_tail 10, (by kernel_rfl)
                go_wp2_with (go_at_call 20; go_loud (refine HC.out.mono ?_); rintro e w3 ⟨rfl, hb3⟩)
                go_ret
                exact ⟨ret_b HU.out.symm, below_then hf hf.size (below_undrew hb3)⟩
            · have HU : Hid (EX = true) := Lib.hid (by rw [← hc.out, eqL_drop_end H4.out (by omega)])
              go_wp2_with fail
              go_ret
              exact ⟨ret_b HU.out.symm, hf⟩
        · have k4 : ((x.items.length : Int) != (y.items.length : Int)) = true := by simp; omega
          have HE : Hid (EX = false) := Lib.hid (by rw [hEQ, eqL_length h4]; simp)
          clear h1 h2 h3 h4 hEQ IH
          go_enter Tryz.func20, Tryz.ntmps20
          go_wp2_with fail
          go_ret
          exact ⟨ret_b HE.out.symm, hB1⟩
      · have k3 := text_ne h3
        have HE : Hid (EX = false) := Lib.hid (by rw [hEQ]; simp [h3])
        clear h1 h2 h3 hEQ IH
        go_enter Tryz.func20, Tryz.ntmps20
        go_wp2_with fail
        go_ret
        exact ⟨ret_b HE.out.symm, hB1⟩
    · have k2 : (x.num != y.num) = true := by simpa using h2
      have HE : Hid (EX = false) := Lib.hid (by rw [hEQ]; simp [h2])
      clear h1 h2 hEQ IH
      go_enter Tryz.func20, Tryz.ntmps20
      go_wp2_with fail
      go_ret
      exact ⟨ret_b HE.out.symm, hB1⟩
  · have k1 : (x.kind != y.kind) = true := by simpa using h1
    have HE : Hid (EX = false) := Lib.hid (by rw [hEQ]; simp [h1])
    clear h1 hEQ IH
    go_enter Tryz.func20, Tryz.ntmps20
    go_wp2_with fail
    go_ret
    exact ⟨ret_b HE.out.symm, hB1⟩

set_option maxRecDepth 100000 in
theorem sames_calls (a b : List V) (va vb : Value) (w : World) (S S' : Nat → Prop) (hA : IsS w S a va) (hB : IsS w S' b vb) :
    Calls Tryz.prog 8 #[va, vb] w fun e w' => e = .returned (.bool (eqL a b)) ∧ Below w.heap.size w w' := by
  obtain ⟨A, ca, rfl, hca, hla, hA⟩ := hA
  obtain ⟨B, cb, rfl, hcb, hlb, hB⟩ := hB
  obtain ⟨EX, hEX⟩ : ∃ b', eqL a b = b' := ⟨_, rfl⟩
  by_cases h4 : a.length = b.length
  · have k4 : ((a.length : Int) != (b.length : Int)) = false := by simp [h4]
    rw [hEX]
    have HE := Lib.hid hEX
    have H4 := Lib.hid h4
    clear hEX h4
    go_enter Tryz.func8, Tryz.ntmps8
    go_wp2_with fail
    clear k4
    go_loopw [13] (fun v wr => ∃ i : Nat, v = .int .i64 i ∧ i ≤ a.length ∧ Hid (eqL (a.drop i) (b.drop i) = EX) ∧ Below w.heap.size w wr) (fun v _ => a.length - (intOf v).toNat)
    case atStart => exact ⟨0, rfl, by omega, Lib.hid HE.out, Below.refl _ _⟩
    case round =>
      obtain ⟨i, rfl, hi, hc, hf⟩ := hrel
      have hA' := hA.below hf
      have hB' := hB.below hf
      clear hA hB HE
      by_cases hlt : i < a.length
      · have hlt2 : i < b.length := by have := H4.out; omega
        obtain ⟨ad, A1, cap1, rfl, hla', hbd, f0, f1, f2, f3, hl, hLA⟩ := hA'.at i hlt
        obtain ⟨bd, B1, cap2, rfl, hlb', hbd', g0, g1, g2, g3, hl', hLA'⟩ := hB'.at i hlt2
        have HX := IsV.mk hbd hl hLA
        have HY := IsV.mk hbd' hl' hLA'
        have HC := same_calls (itemAt a i) (itemAt b i) _ _ wr.drew S S' (HX.keep Keeps.drew) (HY.keep Keeps.drew)
        have HC := Lib.hid HC
        have hU := eqL_drop hlt hlt2
        rw [hc.out] at hU
        cases hE : eqV (itemAt a i) (itemAt b i) with
        | true =>
          rw [hE] at hU HC
          have HU : Hid (eqL (a.drop (i + 1)) (b.drop (i + 1)) = EX) := Lib.hid (by rw [hU]; simp)
          clear hU hE
          go_wp2_with fail
          go_still_tail 8, (by kernel_rfl)
          go_wp2_with (go_at_call 20; go_loud (refine HC.out.mono ?_); rintro e w3 ⟨rfl, hb3⟩)
          go_roundw
          case rel => exact ⟨i + 1, by go_num, by omega, HU, below_then hf hf.size (below_undrew hb3)⟩
          case measure => simp [intOf]; omega
        | false =>
          rw [hE] at hU HC
          have HU : Hid (EX = false) := Lib.hid (by rw [hU]; simp)
          clear hU hE
          go_wp2_with fail
          go_still_tail 8, (by kernel_rfl)
          go_wp2_with (go_at_call 20; go_loud (refine HC.out.mono ?_); rintro e w3 ⟨rfl, hb3⟩)
          go_ret
          exact ⟨ret_b HU.out.symm, below_then hf hf.size (below_undrew hb3)⟩
      · have HU : Hid (EX = true) := Lib.hid (by rw [← hc.out, eqL_drop_end H4.out (by omega)])
        go_wp2_with fail
        go_ret
        exact ⟨ret_b HU.out.symm, hf⟩
  · have k4 : ((a.length : Int) != (b.length : Int)) = true := by simp; omega
    rw [eqL_length h4]
    clear h4 hEX
    go_enter Tryz.func8, Tryz.ntmps8
    go_wp2_with fail
    go_ret
    exact ⟨rfl, Below.refl _ _⟩
end Go.Proofs.YtmnblgaefdahhaaGreatDoor
