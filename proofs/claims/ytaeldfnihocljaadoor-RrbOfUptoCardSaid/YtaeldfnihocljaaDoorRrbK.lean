/- What the law asks of a vector: has it just these items? -/
import Derived.Test.YtaeldfnihocljaaDoorRrbI
import Derived.Test.YtaeldfnihocljaaDoorValC
set_option linter.unusedVariables false
set_option linter.unusedSimpArgs false
namespace Go.Proofs.YtaeldfnihocljaaDoor
open Go.RowKit
attribute [local go_sem] lt_succ_of

set_option maxRecDepth 100000 in
theorem vsame_calls (l m : List V) (h b : Nat) (vm : Value) (w : World) (S S' : Nat → Prop) (hr : IsR w S l h b) (hm : IsS w S' m vm) :
    Calls Tryd.prog 14 #[.pointer (some ⟨b, 0, none⟩), vm] w fun e w' => e = .returned (.bool (eqL l m)) ∧ Below w.heap.size w w' := by
  have HL := Lib.hid (len_calls l h b w S hr)
  have HR := Lib.hid hr
  have HM := Lib.hid hm
  have hl65 := hr.2.2.1
  obtain ⟨A, cA, rfl, hcA, hmA, hA⟩ := hm
  clear hA hr
  by_cases hl : l.length = m.length
  · have e1 : ((l.length : Int) == (m.length : Int)) = true := by simp [hl]
    obtain ⟨EX, hEX⟩ : ∃ b', eqL l m = b' := ⟨_, rfl⟩
    have HE := Lib.hid hEX
    rw [hEX]
    have e2 : (l.length == m.length) = true := by simp [hl]
    clear hl hEX
    go_enter Tryd.func14, Tryd.ntmps14
    go_wp2_with (first | (go_at_call 24; refine HL.out.mono ?_; rintro e w2 ⟨rfl, hb2⟩; have HR2 := Lib.hid (HR.out.below hb2); have HM2 := Lib.hid (HM.out.below hb2)) | (go_at_call 32; refine (items_calls l h b _ S HR2.out).mono ?_; rintro e w3 ⟨v, rfl, hv, hb3⟩; have HV := Lib.hid hv; have HM3 := Lib.hid (HM2.out.below hb3); have hb4 := below_then hb2 hb2.size hb3; clear hv) | (go_at_call 19; refine (sames_calls l m v _ _ _ _ HV.out HM3.out).mono ?_; rintro e w5 ⟨rfl, hb5⟩; rw [HE.out]))
    go_ret
    exact ⟨rfl, below_then hb4 hb4.size hb5⟩
  · have hne : eqL l m = false := by
      rcases Bool.eq_false_or_eq_true (eqL l m) with h | h
      · exact absurd (congrArg List.length ((eqL_iff _ _).1 h)) hl
      · exact h
    rw [hne]
    have e1 : ((l.length : Int) == (m.length : Int)) = false := by simp; omega
    have e2 : (l.length == m.length) = false := by simpa using hl
    clear hne
    have HNE := Lib.hid hl
    clear hl
    go_enter Tryd.func14, Tryd.ntmps14
    go_wp2_with (first | (go_at_call 24; refine HL.out.mono ?_; rintro e w2 ⟨rfl, hb2⟩))
    go_ret
    exact ⟨rfl, hb2⟩
end Go.Proofs.YtaeldfnihocljaaDoor
