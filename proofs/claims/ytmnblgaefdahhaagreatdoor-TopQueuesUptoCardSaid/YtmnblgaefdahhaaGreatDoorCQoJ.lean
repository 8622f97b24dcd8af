/- slices.Clone of values. -/
import Derived.Test.YtmnblgaefdahhaaGreatDoorCQoI
import Derived.Test.YtmnblgaefdahhaaGreatDoorCBase

set_option linter.unusedVariables false
set_option linter.unusedSimpArgs false
namespace Go.Proofs.YtmnblgaefdahhaaGreatDoor
open Go.RowKit Go.Shelf
attribute [local go_sem] lt_succ_of

theorem own_empty (w : World) : OwnL (w.alloc (.cells #[] 39)) w.heap.size (fun b => b < w.heap.size) [] (.slice (some ⟨w.heap.size, 0, none⟩) 0 0) :=
  ⟨[], ⟨rfl, .inr ⟨w.heap.size, 0, #[], rfl, Nat.le_refl _, heap_alloc_new w _, Nat.le_refl _, Nat.zero_le _, rfl, rfl⟩⟩, rfl⟩
set_option maxRecDepth 100000 in
set_option maxHeartbeats 4000000 in
theorem clone_calls (l : List V) (vl : Value) (w : World) (S : Nat → Prop) (hl : IsS w S l vl) :
    Calls Tryz.prog 30 #[vl] w fun e w' => ∃ v', e = .returned v' ∧ OwnL w' w.heap.size (fun b => b < w.heap.size) l v' ∧ Below w.heap.size w w' := by
  obtain ⟨A, ca, rfl, hca, hla, hA⟩ := hl
  have q22 : ∀ (w : World) (a : Option Addr) (n c n' c' : Nat), (binOp .eql 22 (.slice a n c) (.slice none n' c')).run Tryz.prog w = .ok (.bool a.isNone) w := fun w a n c n' c' => Lib.run_eql_slice_nil w _ _ a n c n' c' Tryz.underlying22
  cases A with
  | none =>
    have hz : l = [] := by
      rcases hA with h | ⟨ad, h, _⟩
      · exact h
      · cases h
    subst hz
    go_enter Tryz.func30, Tryz.ntmps30
    go_wp2_with fail
    go_ret
    exact ⟨_, rfl, OwnL.nil _ _ _, Below.refl _ _⟩
  | some ad =>
    have hm : LA (w.alloc (.cells #[] 39)) (fun b => b < w.heap.size ∧ some b ≠ (Value.slice (some ⟨w.heap.size, 0, none⟩) 0 0).ownBlock) l (some ad) := hA.keep fun b hb hs => ⟨⟨hb, fun e => by injection e with e; exact absurd (show b = w.heap.size from e) (Nat.ne_of_lt hb)⟩, Below.heap_alloc _ _ _ hb⟩
    have HM := Lib.hid hm
    have hsz : w.heap.size ≤ (w.alloc (.cells #[] 39)).heap.size := by simp
    have HSZ := Lib.hid hsz
    have HB := Lib.hid (show Below w.heap.size w (w.alloc (.cells #[] 39)) from (Below.refl _ _).alloc (Nat.le_refl _) _)
    clear hm hA hsz
    go_enter Tryz.func30, Tryz.ntmps30
    go_wp2_with (at_builtin; refine append_many w.heap.size (fun b => b < w.heap.size) rfl _ _ rfl (.slice (some ⟨w.heap.size, 0, none⟩) 0 0) [] l (some ad) ca rfl rfl (own_empty w) HM.out HSZ.out (by simp; omega) ?_; intro v1 w1 hO1 hg1; rw [List.nil_append] at hO1; have HO1 := Lib.hid hO1; have HB1 := Lib.hid (HB.out.grown hg1 HSZ.out (fun k e => by injection e with e; exact Nat.le_of_eq e)); obtain ⟨A1, c1, rfl, _⟩ := hO1.form; clear hO1 hg1)
    go_ret
    exact ⟨_, rfl, HO1.out, HB1.out⟩
end Go.Proofs.YtmnblgaefdahhaaGreatDoor
