/- Is one part of a value right? By its kind. -/
import Derived.Test.YtaeldfnihocljaaDoorSpec2
set_option linter.unusedVariables false
namespace Go.Proofs.YtaeldfnihocljaaDoor
open Go.RowKit

theorem size_nil (t : ByteArray) : t.size = 0 ↔ t.toList = [] := by
  rw [Lib.toList_data]
  have : t.data.toList.length = t.size := by rw [Array.length_toList]; rfl
  rw [← this]
  exact List.length_eq_zero_iff
theorem ok_out {k n : Int} {t : ByteArray} {l : List V} (h : k < 0 ∨ 6 < k) : okB (.mk k n t l) = false := by
  show (plainK k n t && formK k l) = false
  have : plainK k n t = false := by
    unfold plainK
    by_cases h1 : (k ≠ 3 ∧ t.size ≠ 0) ∨ (k ≠ 2 ∧ k ≠ 1 ∧ n ≠ 0)
    · rw [if_pos h1]
    · rw [if_neg h1, if_neg (by omega), if_neg (by omega)]
      simp
      omega
  rw [this]; rfl
theorem ok_0 (n : Int) (t : ByteArray) (l : List V) : okB (.mk 0 n t l) = true ↔ n = 0 ∧ t.size = 0 ∧ l.length = 0 := by
  show (plainK 0 n t && formK 0 l) = true ↔ _
  unfold plainK formK
  by_cases h1 : n = 0 <;> by_cases h2 : t.size = 0 <;> simp [h1, h2]
theorem ok_1 (n : Int) (t : ByteArray) (l : List V) : okB (.mk 1 n t l) = true ↔ (n = 0 ∨ n = 1) ∧ t.size = 0 ∧ l.length = 0 := by
  show (plainK 1 n t && formK 1 l) = true ↔ _
  unfold plainK formK
  by_cases h2 : t.size = 0 <;> simp [h2]
theorem ok_2 (n : Int) (t : ByteArray) (l : List V) : okB (.mk 2 n t l) = true ↔ t.size = 0 ∧ l.length = 0 := by
  show (plainK 2 n t && formK 2 l) = true ↔ _
  unfold plainK formK
  by_cases h2 : t.size = 0 <;> simp [h2]
theorem ok_3 (n : Int) (t : ByteArray) (l : List V) : okB (.mk 3 n t l) = true ↔ n = 0 ∧ t.size ≤ 256 ∧ utfFrom t 0 = true ∧ l.length = 0 := by
  show (plainK 3 n t && formK 3 l) = true ↔ _
  unfold plainK formK
  by_cases h1 : n = 0 <;> simp [h1, and_assoc]
theorem ok_4 (n : Int) (t : ByteArray) (l : List V) : okB (.mk 4 n t l) = true ↔ n = 0 ∧ t.size = 0 := by
  show (plainK 4 n t && formK 4 l) = true ↔ _
  unfold plainK formK
  by_cases h1 : n = 0 <;> by_cases h2 : t.size = 0 <;> simp [h1, h2]
theorem ok_5 (n : Int) (t : ByteArray) (l : List V) : okB (.mk 5 n t l) = true ↔ n = 0 ∧ t.size = 0 ∧ ascFrom 0 l 1 = true := by
  show (plainK 5 n t && formK 5 l) = true ↔ _
  unfold plainK formK
  by_cases h1 : n = 0 <;> by_cases h2 : t.size = 0 <;> simp [h1, h2]
theorem ok_6 (n : Int) (t : ByteArray) (l : List V) : okB (.mk 6 n t l) = true ↔ n = 0 ∧ t.size = 0 ∧ l.length % 2 = 0 ∧ ascFrom 1 l 2 = true := by
  show (plainK 6 n t && formK 6 l) = true ↔ _
  unfold plainK formK
  by_cases h1 : n = 0 <;> by_cases h2 : t.size = 0 <;> by_cases h3 : l.length % 2 = 1 <;> simp [h1, h2, h3] <;> omega
end Go.Proofs.YtaeldfnihocljaaDoor
