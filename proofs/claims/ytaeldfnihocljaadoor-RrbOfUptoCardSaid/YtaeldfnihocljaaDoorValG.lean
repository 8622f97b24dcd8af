/- Right values and lists of them, in the program and in the reference. -/
import Derived.Test.YtaeldfnihocljaaDoorValF
set_option linter.unusedVariables false
set_option linter.unusedSimpArgs false
namespace Go.Proofs.YtaeldfnihocljaaDoor
open Go.RowKit Go.Shelf
attribute [local go_sem] lt_succ_of

def rightsB (l : List V) : Bool := l.all rightB
/-- What is wrong with a list of values. -/
def listE (l : List V) : Int := if 65536 < l.length then 2 else if rightsB l = true then 0 else 3
theorem rightsB_take {l : List V} {i : Nat} (hi : i < l.length) : rightsB (l.take (i + 1)) = (rightsB (l.take i) && rightB (itemAt l i)) := by
  rw [itemAt_take hi]
  unfold rightsB
  simp
theorem rightsB_false {l : List V} {i : Nat} (hi : i < l.length) (h : rightB (itemAt l i) = false) : rightsB l = false := by
  unfold rightsB
  rw [List.all_eq_false]
  exact ⟨_, itemAt_mem hi, by simp [h]⟩
theorem rightB_pos (x : V) : decide (0 < countV x 16 1024) = rightB x := by
  unfold rightB
  exact decide_eq_decide.2 (countV_pos x 16 1024)
theorem rightB_fits (x : V) : decide (0 ≤ fitsV x 16 1024) = rightB x := by
  unfold rightB
  refine decide_eq_decide.2 ?_
  have := fitsV_neg x 16 1024
  constructor
  · intro h
    exact Classical.byContradiction fun h' => by have := this.2 h'; omega
  · intro h
    exact Int.not_lt.1 fun h' => this.1 h' h

theorem right_calls (x : V) (vx : Value) (w : World) (S : Nat → Prop) (hx : IsV w S x vx) (hT : Lib.Utf8Tabs 0 1 w) :
    Calls Tryd.prog 63 #[vx] w fun e w' => e = .returned (.bool (rightB x)) ∧ Below w.heap.size w w' := by
  obtain ⟨hbx, A, ca, rfl, hca, hA⟩ := hx.eq
  obtain ⟨w1, hw1, hB1, hsz, hb0⟩ := box1 w (.int .i64 x.kind) (.int .i64 x.num) (.string x.text) (.slice A x.items.length ca) 31
  obtain ⟨a0, a1, a2, a3⟩ := block4 hb0
  clear hb0
  have HC := Lib.hid (count_calls x 16 1024 _ w1 S (hx.below hB1) (tabs_below hT hB1) (by omega) (by omega) (by omega) (by omega))
  clear hx hT
  have HR := Lib.hid (rightB_pos x)
  go_enter Tryd.func63, Tryd.ntmps63
  go_wp2_with (go_at_call 68; refine HC.out.mono ?_; rintro e w2 ⟨rfl, hb2⟩)
  go_ret
  exact ⟨ret_b HR.out, below_then hB1 hB1.size hb2⟩
theorem check_calls (x : V) (vx : Value) (w : World) (S : Nat → Prop) (hx : IsV w S x vx) (hT : Lib.Utf8Tabs 0 1 w) :
    Calls Tryd.prog 51 #[vx] w fun e w' => e = .returned (.int .i64 (if rightB x = true then 0 else 3)) ∧ Below w.heap.size w w' := by
  obtain ⟨hbx, A, ca, rfl, hca, hA⟩ := hx.eq
  obtain ⟨w1, hw1, hB1, hsz, hb0⟩ := box1 w (.int .i64 x.kind) (.int .i64 x.num) (.string x.text) (.slice A x.items.length ca) 31
  obtain ⟨a0, a1, a2, a3⟩ := block4 hb0
  clear hb0
  have HC := right_calls x _ w1 S (hx.below hB1) (tabs_below hT hB1)
  clear hx hT
  cases hr : rightB x with
  | true =>
    rw [hr] at HC
    have HC := Lib.hid HC
    clear hr
    go_enter Tryd.func51, Tryd.ntmps51
    go_wp2_with (go_at_call 63; refine HC.out.mono ?_; rintro e w2 ⟨rfl, hb2⟩)
    go_ret
    exact ⟨rfl, below_then hB1 hB1.size hb2⟩
  | false =>
    rw [hr] at HC
    have HC := Lib.hid HC
    clear hr
    go_enter Tryd.func51, Tryd.ntmps51
    go_wp2_with (go_at_call 63; refine HC.out.mono ?_; rintro e w2 ⟨rfl, hb2⟩)
    go_ret
    exact ⟨rfl, below_then hB1 hB1.size hb2⟩

set_option maxRecDepth 100000 in
theorem values_calls (l : List V) (vl : Value) (w : World) (S : Nat → Prop) (hl : IsS w S l vl) (hT : Lib.Utf8Tabs 0 1 w) :
    Calls Tryd.prog 42 #[vl] w fun e w' => e = .returned (.int .i64 (listE l)) ∧ Below w.heap.size w w' := by
  obtain ⟨A, ca, rfl, hca, hla, hA⟩ := hl
  have HT := Lib.hid hT
  clear hT
  obtain ⟨EL, hEL⟩ : ∃ e, listE l = e := ⟨_, rfl⟩
  rw [hEL]
  have HEL := Lib.hid hEL
  clear hEL
  by_cases h1 : 65536 < l.length
  · have HE : Hid (EL = 2) := Lib.hid (by rw [← HEL.out, listE, if_pos h1])
    have h2 : (65536 : Int) < l.length := by omega
    go_enter Tryd.func42, Tryd.ntmps42
    go_wp2_with fail
    go_ret
    exact ⟨ret_i HE.out.symm, Below.refl _ _⟩
  · have h2 : ¬ (65536 : Int) < l.length := by omega
    have H1 := Lib.hid h1
    clear h1
    go_enter Tryd.func42, Tryd.ntmps42
    go_wp2_with fail
    clear h2
    go_loopw [10] (fun v wr => ∃ i : Nat, v = .int .i64 i ∧ i ≤ l.length ∧ Hid (rightsB (l.take i) = true) ∧ Below w.heap.size w wr) (fun v _ => l.length - (intOf v).toNat)
    case atStart => exact ⟨0, rfl, by omega, Lib.hid (by rw [List.take_zero]; rfl), Below.refl _ _⟩
    case round =>
      obtain ⟨i, rfl, hi, hr, hf⟩ := hrel
      have hA' := hA.below hf
      clear hA
      by_cases hlt : i < l.length
      · obtain ⟨ad, A1, cap1, rfl, hla', hbd, f0, f1, f2, f3, hcap, hLA⟩ := hA'.at i hlt
        have hX := IsV.mk hbd hcap hLA
        have HK := fun (w' : World) (hb' : Below wr.heap.size wr w') => right_calls (itemAt l i) _ w' S (hX.below hb') (tabs_below HT.out (below_then hf hf.size hb'))
        have htk := rightsB_take hlt
        cases hx : rightB (itemAt l i) with
        | true =>
          have HR : Hid (rightsB (l.take (i + 1)) = true) := Lib.hid (by rw [htk, hr.out, hx]; rfl)
          rw [hx] at HK
          have HK := Lib.hid HK
          clear htk hx
          go_wp2_with (go_at_call 63; refine (HK.out _ ((Below.refl _ _).alloc (Nat.le_refl _) _)).mono ?_; rintro e w3 ⟨rfl, hb3⟩)
          go_roundw
          case rel => exact ⟨i + 1, by go_num, by omega, HR, below_then hf hf.size (below_then ((Below.refl _ _).alloc (Nat.le_refl _) _) (by simp) hb3)⟩
          case measure => simp [intOf]; omega
        | false =>
          have HE : Hid (EL = 3) := Lib.hid (by rw [← HEL.out, listE, if_neg H1.out, rightsB_false hlt hx]; rfl)
          rw [hx] at HK
          have HK := Lib.hid HK
          clear htk hx
          go_wp2_with (go_at_call 63; refine (HK.out _ ((Below.refl _ _).alloc (Nat.le_refl _) _)).mono ?_; rintro e w3 ⟨rfl, hb3⟩)
          go_ret
          exact ⟨ret_i HE.out.symm, below_then hf hf.size (below_then ((Below.refl _ _).alloc (Nat.le_refl _) _) (by simp) hb3)⟩
      · have HE : Hid (EL = 0) := Lib.hid (by
          have he : i = l.length := by omega
          have := hr.out
          rw [he, List.take_length] at this
          rw [← HEL.out, listE, if_neg H1.out, if_pos this])
        go_wp2_with fail
        go_ret
        exact ⟨ret_i HE.out.symm, hf⟩
end Go.Proofs.YtaeldfnihocljaaDoor
