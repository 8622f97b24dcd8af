/- A value as a text, as the program writes it. -/
import Derived.Test.YtoiipdknamgcmaaGreatDoorCTxC

set_option linter.unusedVariables false
set_option linter.unusedSimpArgs false
namespace Go.Proofs.YtoiipdknamgcmaaGreatDoor
open Go.RowKit Go.Shelf
attribute [local go_sem] lt_succ_of

mutual
/-- The cells that a value's printed form has. -/
def prV : V → List Value
  | .mk k n t l => if k = 0 then Lib.strCells ⟨#[110, 105, 108]⟩ else if k = 1 then (if n = 1 then Lib.strCells ⟨#[116, 114, 117, 101]⟩ else Lib.strCells ⟨#[102, 97, 108, 115, 101]⟩) else if k = 2 then Lib.strCells ⟨(Lib.itoa n).toArray⟩
    else if k = 3 then [.int .u8 34] ++ escFrom t 0 ++ [.int .u8 34] else if k = 4 then Lib.strCells ⟨#[91]⟩ ++ prL l true ++ [.int .u8 93] else if k = 5 then Lib.strCells ⟨#[35, 123]⟩ ++ prL l true ++ [.int .u8 125] else Lib.strCells ⟨#[123]⟩ ++ prL l true ++ [.int .u8 125]
/-- Items with a blank between. -/
def prL : List V → Bool → List Value
  | [], _ => []
  | x :: xs, first => (if first = true then [] else [.int .u8 32]) ++ prV x ++ prL xs false
end
/-- A builder before and behind: its block, its bytes. -/
def Bld (B b : Nat) (bs : List Value) (w : World) : Prop := Lib.BuilderAtF 43 5 B b (.pointer (some ⟨b, 0, none⟩)) bs w
set_option maxRecDepth 100000 in
set_option maxHeartbeats 4000000 in
theorem bool_calls (c : Bool) (w : World) : Calls Tryz.prog 28 #[.bool c] w fun e w' => e = .returned (.string (if c = true then ⟨#[116, 114, 117, 101]⟩ else ⟨#[102, 97, 108, 115, 101]⟩)) ∧ w = w' := by
  have hin : ∀ W, Calls Tryz.prog 47 #[.bool c] W fun e w' => e = .returned (.string (if c = true then ⟨#[116, 114, 117, 101]⟩ else ⟨#[102, 97, 108, 115, 101]⟩)) ∧ W = w' := fun W => by
    cases c
    all_goals
      go_enter Tryz.func47, Tryz.ntmps47
      go_wp2_with fail
      go_ret
      exact ⟨rfl, rfl⟩
  have HIN := Lib.hid hin
  clear hin
  cases c
  all_goals
    go_enter Tryz.func28, Tryz.ntmps28
    go_wp2_with (go_at_call 47; refine (HIN.out _).mono ?_; rintro e w2 ⟨rfl, rfl⟩)
    go_ret
    exact ⟨rfl, rfl⟩
end Go.Proofs.YtoiipdknamgcmaaGreatDoor
