/- The document's answers of a list: the greatest height, and what Height tells. -/
import Derived.Test.YtaeldfnihocljaaDoorCVPush
import Derived.Test.YtaeldfnihocljaaDoorCValH

set_option linter.unusedVariables false
set_option linter.unusedSimpArgs false
namespace Go.Proofs.YtaeldfnihocljaaDoor
open Go.RowKit
attribute [local go_sem] lt_succ_of

theorem height_calls (l : List V) (h b : Nat) (w : World) (S : Nat → Prop) (hr : IsR w S l h b) :
    Calls Tryd.prog 22 #[.pointer (some ⟨b, 0, none⟩)] w fun e w' => e = .returned (.int .i64 (h : Int)) ∧ Below w.heap.size w w' := by
  obtain ⟨hs, c1, _⟩ := hr
  have hb := World.block_lt_of_cell? w _ c1
  go_enter Tryd.func22, Tryd.ntmps22
  go_wp2_with fail
  go_ret
  exact ⟨rfl, Below.refl _ _⟩
theorem height_nil_calls (w : World) : Calls Tryd.prog 22 #[.pointer none] w fun e w' => e = .returned (.int .i64 0) ∧ Below w.heap.size w w' := by
  go_enter Tryd.func22, Tryd.ntmps22
  go_wp2_with fail
  go_ret
  exact ⟨rfl, Below.refl _ _⟩
/-- The greatest height of so many items. -/
def highN (n : Nat) : Nat := if n = 0 then 0 else Nat.log2 n / 4 + 3
set_option maxRecDepth 100000 in
theorem high_calls (n : Nat) (w : World) (hn : n ≤ 65536) : Calls Tryd.prog 23 #[.int .i64 (n : Int)] w fun e w' => e = .returned (.int .i64 (highN n : Int)) ∧ Below w.heap.size w w' := by
  by_cases h0 : n = 0
  · subst h0
    go_enter Tryd.func23, Tryd.ntmps23
    go_wp2_with fail
    go_ret
    exact ⟨rfl, Below.refl _ _⟩
  · have h1 : ((n : Int) == 0) = false := by simpa using h0
    go_enter Tryd.func23, Tryd.ntmps23
    go_wp2_with fail
    have hlog : Nat.log2 n ≤ 16 := by
      have : Nat.log2 n < 17 := (Nat.log2_lt h0).2 (by omega)
      omega
    go_loop [3] (fun v => ∃ k : Nat, v = .int .i64 k ∧ k ≤ Nat.log2 n) (fun v => Nat.log2 n - (intOf v).toNat)
    case atStart => exact ⟨0, rfl, by omega⟩
    case round =>
      obtain ⟨k, rfl, hk⟩ := hrel
      have i1 : IntKind.i64.wrap ((k : Int) + 1) = ((k + 1 : Nat) : Int) := by rw [IntWalk.i64_in _ (by omega)]; omega
      by_cases hlt : k < Nat.log2 n
      · have hd : (0 : Int) < (n : Int) / 2 ^ (k + 1) := by
          have h2 : 2 ^ (k + 1) ≤ n := Nat.le_trans (Nat.pow_le_pow_right (by omega) hlt) (Nat.log2_self_le h0)
          have h3 : 0 < n / 2 ^ (k + 1) := Nat.div_pos h2 (Nat.two_pow_pos _)
          have h4 : ((n / 2 ^ (k + 1) : Nat) : Int) = (n : Int) / 2 ^ (k + 1) := by simp
          omega
        go_wp2_with fail
        go_round
        case rel => exact ⟨k + 1, by go_num, by omega⟩
        case measure => simp [intOf]; omega
      · obtain rfl : k = Nat.log2 n := by omega
        have hd : ¬ (0 : Int) < (n : Int) / 2 ^ (Nat.log2 n + 1) := by
          have h3 : n / 2 ^ (Nat.log2 n + 1) = 0 := Nat.div_eq_of_lt (Nat.lt_log2_self)
          have h4 : ((n / 2 ^ (Nat.log2 n + 1) : Nat) : Int) = (n : Int) / 2 ^ (Nat.log2 n + 1) := by simp
          omega
        have HH : Hid ((highN n : Int) = ((Nat.log2 n : Nat) : Int) / 4 + 3) := Lib.hid (by unfold highN; rw [if_neg h0]; omega)
        go_wp2_with fail
        go_ret
        exact ⟨by rw [HH.out]; rfl, Below.refl _ _⟩
/-- A vector is as flat as is promised. -/
theorem IsR.flat_enough {w : World} {S : Nat → Prop} {l : List V} {h b : Nat} (hr : IsR w S l h b) : h ≤ highN l.length ∧ (h = 0 ↔ l.length = 0) := by
  have hz : h = 0 ↔ l.length = 0 := by
    obtain ⟨_, _, _, ⟨h1, h2, _⟩ | ⟨n, u, _, _, hn, hd, _⟩⟩ := hr
    · simp [h1, h2]
    · have := hd.pos
      rw [hn] at this
      refine ⟨fun e => ?_, fun e => by omega⟩
      subst e
      exact hd.elim
  refine ⟨?_, hz⟩
  rcases hr.high with h0 | h1
  · omega
  · by_cases h0 : l.length = 0
    · have := hz.2 h0; omega
    · unfold highN
      rw [if_neg h0]
      have h2 : 2 ^ (5 * (h - 1)) ≤ l.length := by rw [Nat.pow_mul]; exact h1
      have h3 : 5 * (h - 1) ≤ Nat.log2 l.length := (Nat.le_log2 h0).2 h2
      omega
end Go.Proofs.YtaeldfnihocljaaDoor
