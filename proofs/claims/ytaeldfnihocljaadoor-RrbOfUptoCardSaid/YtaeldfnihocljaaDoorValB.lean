/- The reference: is one part of a value right? -/
import Derived.Test.YtaeldfnihocljaaDoorValA
import Derived.Test.YtaeldfnihocljaaDoorOk
import Derived.Test.YtaeldfnihocljaaDoorValB0
import Derived.Test.YtaeldfnihocljaaDoorValB1
import Derived.Test.YtaeldfnihocljaaDoorValB2
import Derived.Test.YtaeldfnihocljaaDoorValB3
set_option linter.unusedVariables false
set_option linter.unusedSimpArgs false
namespace Go.Proofs.YtaeldfnihocljaaDoor
open Go.RowKit Go.Shelf
attribute [local go_sem] lt_succ_of

theorem refown_calls (x : V) (vx : Value) (w : World) (S : Nat → Prop) (hx : IsV w S x vx) :
    Calls Tryd.prog 69 #[vx] w fun e w' => e = .returned (.bool (okB x)) ∧ Below w.heap.size w w' := by
  obtain ⟨hb, A, ca, rfl, hca, hA⟩ := hx.eq
  clear hx
  cases x with
  | mk k n t l =>
  have hl1 := hb.l1
  have ht1 := hb.t1
  simp only [V.kind, V.num, V.text, V.items] at *
  clear hb
  by_cases h1 : k < 0 ∨ 6 < k
  · rw [ok_out h1]
    obtain ⟨w1, hw1, hB1, hsz, hb0⟩ := box1 w (.int .i64 k) (.int .i64 n) (.string t) (.slice A l.length ca) 31
    obtain ⟨a0, a1, a2, a3⟩ := block4 hb0
    clear hb0
    rcases h1 with h1 | h1
    all_goals
      go_enter Tryd.func69, Tryd.ntmps69
      go_wp2_with fail
      go_ret
      exact ⟨rfl, hB1⟩
  · have cs : k = 0 ∨ k = 1 ∨ k = 2 ∨ k = 3 ∨ k = 4 ∨ k = 5 ∨ k = 6 := by omega
    rcases cs with rfl | rfl | rfl | rfl | rfl | rfl | rfl
    · exact refown_0 n t l A ca w S hca hA hl1 ht1
    · exact refown_1 n t l A ca w S hca hA hl1 ht1
    · exact refown_2 n t l A ca w S hca hA hl1 ht1
    · exact refown_3 n t l A ca w S hca hA hl1 ht1
    · exact refown_4 n t l A ca w S hca hA hl1 ht1
    · exact refown_5 n t l A ca w S hca hA hl1 ht1
    · exact refown_6 n t l A ca w S hca hA hl1 ht1
end Go.Proofs.YtaeldfnihocljaaDoor
