/- The document's answer for one item. -/
import Derived.Test.YtaeldfnihocljaaDoorRrbK
set_option linter.unusedVariables false
set_option linter.unusedSimpArgs false
namespace Go.Proofs.YtaeldfnihocljaaDoor
open Go.RowKit
attribute [local go_sem] lt_succ_of

set_option maxRecDepth 100000 in
theorem refnth_calls (l : List V) (i : Int) (vl : Value) (w : World) (S : Nat → Prop) (hl : IsS w S l vl) (hi0 : -9223372036854775808 ≤ i) (hi1 : i ≤ 9223372036854775807) :
    Calls Tryd.prog 16 #[vl, .int .i64 i] w fun e w' => ∃ v, e = .returned (.tuple #[v, .int .i64 (nthV l i).2]) ∧ IsV w' (fun b => S b ∨ w.heap.size ≤ b) (nthV l i).1 v ∧ Below w.heap.size w w' := by
  obtain ⟨A, cA, rfl, hcA, hla, hA⟩ := hl
  obtain ⟨w1, hw1, hB1, hsz, hb0⟩ := box0 w 31 (.int .i64 0) (.int .i64 0) (.string ⟨#[]⟩) (.slice none 0 0)
  obtain ⟨e0, e1, e2, e3⟩ := block4 hb0
  have fz := free4 hb0
  by_cases hneg : i < 0
  · have hz : nthV l i = (V.zero, 5) := by unfold nthV; rw [if_neg (by omega)]
    rw [hz]
    have h2 : decide (i < 0) = true := by simpa using hneg
    clear hb0 hA
    go_enter Tryd.func16, Tryd.ntmps16
    go_wp2_with fail
    refine bodyPost_ret (v := .tuple #[.agg #[.int .i64 0, .int .i64 0, .string ⟨#[]⟩, .slice none 0 0], .int .i64 5]) (by simp [results, Tryd.results16, go_sem, e0, e1, e2, e3]) rfl ⟨_, rfl, zero_is _ _, ?_⟩
    repeat refine Below.setCell ?_ (by simp) _
    exact hB1
  · obtain ⟨j, rfl⟩ : ∃ j : Nat, i = (j : Int) := ⟨i.toNat, by omega⟩
    have h2 : decide ((j : Int) < 0) = false := by simp
    by_cases hj : j < l.length
    · have hz : nthV l (j : Int) = (itemAt l j, 0) := by unfold nthV; rw [if_pos (by omega)]; simp
      rw [hz]
      obtain ⟨ad, A1, cap1, rfl, hla', hbd, f0, f1, f2, f3, hcap1, hLA⟩ := (hA.keep (S' := fun b => S b ∧ b < w.heap.size) (Keeps.below_to hB1 fun b h1 h2 => ⟨h2, h1⟩)).at j hj
      have hj2 : (j : Int) < (l.length : Int) := by omega
      have hj3 : ¬ (l.length : Int) ≤ (j : Int) := by omega
      have HLA := Lib.hid hLA
      clear hb0 hA hz hneg hLA
      go_enter Tryd.func16, Tryd.ntmps16
      go_wp2_with fail
      refine bodyPost_ret (v := .tuple #[.agg #[.int .i64 (itemAt l j).kind, .int .i64 (itemAt l j).num, .string (itemAt l j).text, .slice A1 (itemAt l j).items.length cap1], .int .i64 0]) (by simp [results, Tryd.results16, go_sem, e0, e1, e2, e3]) rfl ⟨_, rfl, ?_, ?_⟩
      · have hn : ¬ (fun b => S b ∧ b < w.heap.size) w.heap.size := fun h => absurd h.2 (Nat.lt_irrefl _)
        refine IsV.mk hbd hcap1 (HLA.out.keep (Keeps.trans (S1 := fun b => S b ∧ b < w.heap.size) ?_ (Keeps.weak fun b h => .inl h.1)))
        repeat refine Keeps.set_after ?_ hn _
        exact Keeps.refl _ _
      · repeat refine Below.setCell ?_ (by simp) _
        exact hB1
    · have hz : nthV l (j : Int) = (V.zero, 5) := by unfold nthV; rw [if_neg (by omega)]
      rw [hz]
      have hj2 : ¬ (j : Int) < (l.length : Int) := by omega
      have hj3 : (l.length : Int) ≤ (j : Int) := by omega
      clear hb0 hA hz hneg hj
      go_enter Tryd.func16, Tryd.ntmps16
      go_wp2_with fail
      refine bodyPost_ret (v := .tuple #[.agg #[.int .i64 0, .int .i64 0, .string ⟨#[]⟩, .slice none 0 0], .int .i64 5]) (by simp [results, Tryd.results16, go_sem, e0, e1, e2, e3]) rfl ⟨_, rfl, zero_is _ _, ?_⟩
      repeat refine Below.setCell ?_ (by simp) _
      exact hB1
end Go.Proofs.YtaeldfnihocljaaDoor
