/- Nodes of a vector: how many items, and where one is. -/
import Derived.Test.YtaeldfnihocljaaDoorProg
import Derived.Test.YtaeldfnihocljaaDoorTree
import Derived.Deep.QuietTactic
import Derived.BigQuiet
import Derived.StillTailTactics
set_option linter.unusedVariables false
set_option linter.unusedSimpArgs false
namespace Go.Proofs.YtaeldfnihocljaaDoor
open Go.RowKit
attribute [local go_sem] lt_succ_of

theorem leafsize_calls (l : List V) (A : Option Addr) (cap : Nat) (w : World) : Calls Tryd.prog 106 #[.slice A l.length cap] w fun e w' => e = .returned (.int .i64 l.length) ∧ w' = w := by
  go_enter Tryd.func106, Tryd.ntmps106
  go_wp2
  go_ret
  exact ⟨rfl, rfl⟩
theorem uptoN_last (ks : List N) (h : 0 < ks.length) : uptoN ks (ks.length - 1) = (N.flat ks).length := by
  unfold uptoN
  rw [show ks.length - 1 + 1 = ks.length by omega, List.take_length]
theorem branchsize_calls (ks : List N) (b : Nat) (w : World) (S : Nat → Prop) (h : IsB w S ks b) (h0 : 0 < ks.length) (h1 : ks.length ≤ 65536) :
    Calls Tryd.prog 105 #[.pointer (some ⟨b, 0, none⟩)] w fun e w' => e = .returned (.int .i64 (N.flat ks).length) ∧ Below w.heap.size w w' := by
  obtain ⟨A, cA, B, cB, hs, c0, hA, c1, hB, hk, hu⟩ := h
  obtain ⟨hs', hc⟩ := hu (ks.length - 1) (by omega)
  rw [uptoN_last ks h0] at hc
  have hb : b < w.heap.size := World.block_lt_of_cell? w _ c0
  have h2 : IntKind.i64.wrap ((ks.length : Int) - 1) = (ks.length : Int) - 1 := IntWalk.i64_in _ (by omega)
  have h3 : (0 : Int) ≤ (ks.length : Int) - 1 := by omega
  have h4 : ((ks.length : Int) - 1).toNat = ks.length - 1 := by omega
  have h5 : (ks.length : Int) - 1 < (ks.length : Int) := by omega
  have h7 : ks.length - 1 < ks.length := by omega
  clear hk hu
  go_enter Tryd.func105, Tryd.ntmps105
  go_wp2_with fail
  go_quiet (fail)
  go_wp2_with fail
  go_ret
  exact ⟨rfl, ⟨rfl, rfl, rfl, Nat.le_refl _, fun _ _ => rfl⟩⟩
theorem aheadN_le_upto (ks : List N) (i : Nat) : aheadN ks i ≤ uptoN ks i := by
  rcases Nat.lt_or_ge i ks.length with h | h
  · rw [uptoN_eq h]; omega
  · unfold aheadN uptoN
    rw [List.take_of_length_le h, List.take_of_length_le (by omega)]
    exact Nat.le_refl _
theorem uptoN_le (ks : List N) (i : Nat) : uptoN ks i ≤ (N.flat ks).length := by
  unfold uptoN
  conv => rhs; rw [← List.take_append_drop (i + 1) ks, flat_append, List.length_append]
  omega
/-- at: which node below has an item, and its place in there. -/
theorem at_calls (ks : List N) (b i : Nat) (w : World) (S : Nat → Prop) (h : IsB w S ks b) (hi : i < (N.flat ks).length) (hm : (N.flat ks).length ≤ 4294967296) (h1 : ks.length ≤ 65536) :
    Calls Tryd.prog 49 #[.pointer (some ⟨b, 0, none⟩), .int .i64 i] w fun e w' => ∃ k j : Nat, e = .returned (.tuple #[.int .i64 k, .int .i64 j]) ∧ k < ks.length ∧ aheadN ks k + j = i ∧ j < (N.items (kidAt ks k)).length ∧ Below w.heap.size w w' := by
  obtain ⟨A, cA, B, cB, hs, c0, hA, c1, hB, hk, hu⟩ := h
  have hb : b < w.heap.size := World.block_lt_of_cell? w _ c0
  have h0 : 0 < ks.length := by
    rcases Nat.eq_zero_or_pos ks.length with h | h
    · obtain rfl := List.eq_nil_of_length_eq_zero h
      simp [N.flat] at hi
    · exact h
  have HM := Lib.hid hm
  have HI := Lib.hid hi
  have HU := Lib.hid hu
  clear hm hi hu hk
  go_enter Tryd.func49, Tryd.ntmps49
  go_wp2_with fail
  go_loop [6] (fun k => ∃ j : Nat, j < ks.length ∧ k = .int .i64 j ∧ aheadN ks j ≤ i) (fun k => ks.length - (intOf k).toNat)
  case atStart => exact ⟨0, h0, rfl, by rw [aheadN_zero]; omega⟩
  case round =>
    obtain ⟨j, hj, rfl, hle⟩ := hrel
    obtain ⟨hsB, hc⟩ := HU.out j hj
    have hBl := World.block_lt_of_cell? w _ hc
    have hle1 := uptoN_le ks j
    by_cases hlt : uptoN ks j ≤ i
    · have h3 : j + 1 < ks.length := by
        rcases Nat.lt_or_ge (j + 1) ks.length with h | h
        · exact h
        · exfalso
          have : j = ks.length - 1 := by omega
          subst this
          rw [uptoN_last ks h0] at hlt
          have := HI.out
          omega
      have h4 : ((uptoN ks j : Int) ≤ (i : Int)) := by omega
      have HLE := Lib.hid hle
      have HLT := Lib.hid hlt
      clear hle1 hle hlt
      go_wp2_with fail
      go_round
      case rel => exact ⟨j + 1, h3, by go_num, HLT.out⟩
      case measure => simp [intOf]; omega
    · have h4 : ¬ ((uptoN ks j : Int) ≤ (i : Int)) := by omega
      have HX : Hid (j < ks.length ∧ aheadN ks j + (i - aheadN ks j) = i ∧ i - aheadN ks j < (N.items (kidAt ks j)).length) := Lib.hid ⟨hj, by omega, by have := uptoN_eq hj; omega⟩
      by_cases hj0 : j = 0
      · subst hj0
        have HLT := Lib.hid hlt
        have hc0 : w.cell? B = some (.int .i64 (uptoN ks 0)) := by simpa [Addr.add] using hc
        have HZ : Hid (i = i - aheadN ks 0) := Lib.hid (by rw [aheadN_zero]; rfl)
        clear hle1 hle hlt
        go_wp2_with fail
        go_ret2
        refine ⟨0, i - aheadN ks 0, ?_, HX.out.1, HX.out.2.1, HX.out.2.2, Below.refl _ _⟩
        rw [← HZ.out]
        rfl
      · obtain ⟨hsB', hc'⟩ := HU.out (j - 1) (by omega)
        have HZ : Hid (uptoN ks (j - 1) = aheadN ks j) := Lib.hid (by rw [← aheadN_succ, show j - 1 + 1 = j by omega])
        rw [HZ.out] at hc'
        have e1 : (0 : Int) < (j : Int) := by omega
        have e2 : IntKind.i64.wrap ((j : Int) - 1) = (j : Int) - 1 := IntWalk.i64_in _ (by omega)
        have e3 : (0 : Int) ≤ (j : Int) - 1 := by omega
        have e4 : ((j : Int) - 1).toNat = j - 1 := by omega
        have e5 : (j : Int) - 1 < (ks.length : Int) := by omega
        have e6 : IntKind.i64.wrap ((i : Int) - (aheadN ks j : Int)) = ((i - aheadN ks j : Nat) : Int) := by
          rw [IntWalk.i64_in _ (by have := HI.out; have := HM.out; omega)]; omega
        have e7 : j - 1 < ks.length := by omega
        have HLT := Lib.hid hlt
        clear hle1 hle hlt
        go_wp2_with fail
        go_ret2
        exact ⟨j, i - aheadN ks j, by rfl, HX.out.1, HX.out.2.1, HX.out.2.2, Below.refl _ _⟩
end Go.Proofs.YtaeldfnihocljaaDoor
