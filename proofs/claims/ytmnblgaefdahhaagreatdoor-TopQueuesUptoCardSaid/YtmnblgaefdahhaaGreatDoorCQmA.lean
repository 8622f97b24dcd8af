/- The pieces of Murmur3: each says some number, whatever the world. Murmur3 of numbers and of rows of hashes. -/
import Derived.Test.YtmnblgaefdahhaaGreatDoorCCmp
/- The pieces of Murmur3: each says some number, whatever the world. -/
set_option linter.unusedVariables false
set_option linter.unusedSimpArgs false
namespace Go.Proofs.YtmnblgaefdahhaaGreatDoor
open Go.RowKit Go.Shelf
attribute [local go_sem] lt_succ_of

/-- A call that says one number, whatever the world, and turns nothing. -/
def SaysU (f : FuncId) (args : Array Value) (r : Int) : Prop := ∀ W, Calls Tryz.prog f args W fun e w' => e = .returned (.int .u32 r) ∧ w' = W
theorem rot15 (x : Int) : ∃ r, SaysU 111 #[.int .u32 x, .int .i64 15] r := by
  have hb : bits BinOp.and IntKind.u64 15 31 = 15 := by decide +kernel
  apply Exists.intro
  intro W
  go_enter Tryz.func111, Tryz.ntmps111
  go_wp2
  go_ret
  exact ⟨rfl, rfl⟩
theorem rot13 (x : Int) : ∃ r, SaysU 111 #[.int .u32 x, .int .i64 13] r := by
  have hb : bits BinOp.and IntKind.u64 13 31 = 13 := by decide +kernel
  apply Exists.intro
  intro W
  go_enter Tryz.func111, Tryz.ntmps111
  go_wp2
  go_ret
  exact ⟨rfl, rfl⟩
noncomputable def rotA (x : Int) : Int := Classical.choose (rot15 x)
noncomputable def rotB (x : Int) : Int := Classical.choose (rot13 x)
theorem rotA_calls (x : Int) : SaysU 111 #[.int .u32 x, .int .i64 15] (rotA x) := Classical.choose_spec (rot15 x)
theorem rotB_calls (x : Int) : SaysU 111 #[.int .u32 x, .int .i64 13] (rotB x) := Classical.choose_spec (rot13 x)
theorem mixk (k : Int) : ∃ r, SaysU 109 #[.int .u32 k] r := by
  apply Exists.intro
  intro W
  go_enter Tryz.func109, Tryz.ntmps109
  go_wp2_with (go_at_call 111; refine (rotA_calls _ _).mono ?_; rintro e w2 ⟨rfl, rfl⟩)
  go_ret
  exact ⟨rfl, rfl⟩
noncomputable def mixK (k : Int) : Int := Classical.choose (mixk k)
theorem mixK_calls (k : Int) : SaysU 109 #[.int .u32 k] (mixK k) := Classical.choose_spec (mixk k)
theorem mixh (h k : Int) : ∃ r, SaysU 108 #[.int .u32 h, .int .u32 k] r := by
  apply Exists.intro
  intro W
  go_enter Tryz.func108, Tryz.ntmps108
  go_wp2_with (go_at_call 111; refine (rotB_calls _ _).mono ?_; rintro e w2 ⟨rfl, rfl⟩)
  go_ret
  exact ⟨rfl, rfl⟩
noncomputable def mixH (h k : Int) : Int := Classical.choose (mixh h k)
theorem mixH_calls (h k : Int) : SaysU 108 #[.int .u32 h, .int .u32 k] (mixH h k) := Classical.choose_spec (mixh h k)
theorem finh (h n : Int) : ∃ r, SaysU 107 #[.int .u32 h, .int .u32 n] r := by
  apply Exists.intro
  intro W
  go_enter Tryz.func107, Tryz.ntmps107
  go_wp2
  go_ret
  exact ⟨rfl, rfl⟩
noncomputable def finH (h n : Int) : Int := Classical.choose (finh h n)
theorem finH_calls (h n : Int) : SaysU 107 #[.int .u32 h, .int .u32 n] (finH h n) := Classical.choose_spec (finh h n)
end Go.Proofs.YtmnblgaefdahhaaGreatDoor

/- Murmur3 of numbers and of rows of hashes. -/
set_option linter.unusedVariables false
set_option linter.unusedSimpArgs false
namespace Go.Proofs.YtmnblgaefdahhaaGreatDoor
open Go.RowKit Go.Shelf
attribute [local go_sem] lt_succ_of

theorem collh (h n : Int) : ∃ r, SaysU 110 #[.int .u32 h, .int .i64 n] r := by
  apply Exists.intro
  intro W
  go_enter Tryz.func110, Tryz.ntmps110
  go_wp2_with (first
    | (go_at_call 109; refine (mixK_calls _ _).mono ?_; rintro e w2 ⟨rfl, rfl⟩)
    | (go_at_call 108; refine (mixH_calls _ _ _).mono ?_; rintro e w2 ⟨rfl, rfl⟩)
    | (go_at_call 107; refine (finH_calls _ _ _).mono ?_; rintro e w2 ⟨rfl, rfl⟩))
  go_ret
  exact ⟨rfl, rfl⟩
noncomputable def collH (h n : Int) : Int := Classical.choose (collh h n)
theorem collH_calls (h n : Int) : SaysU 110 #[.int .u32 h, .int .i64 n] (collH h n) := Classical.choose_spec (collh h n)
theorem inth (x : Int) : ∃ r, SaysU 99 #[.int .i32 x] r := by
  by_cases h0 : x = 0
  · subst h0
    apply Exists.intro
    intro W
    go_enter Tryz.func99, Tryz.ntmps99
    go_wp2
    go_ret
    exact ⟨rfl, rfl⟩
  · have h1 : (x == 0) = false := by simpa using h0
    apply Exists.intro
    intro W
    go_enter Tryz.func99, Tryz.ntmps99
    go_wp2_with (first
      | (go_at_call 109; refine (mixK_calls _ _).mono ?_; rintro e w2 ⟨rfl, rfl⟩)
      | (go_at_call 108; refine (mixH_calls _ _ _).mono ?_; rintro e w2 ⟨rfl, rfl⟩)
      | (go_at_call 107; refine (finH_calls _ _ _).mono ?_; rintro e w2 ⟨rfl, rfl⟩))
    go_ret
    exact ⟨rfl, rfl⟩
noncomputable def intH (x : Int) : Int := Classical.choose (inth x)
theorem intH_calls (x : Int) : SaysU 99 #[.int .i32 x] (intH x) := Classical.choose_spec (inth x)
theorem longh (x : Int) : ∃ r, SaysU 98 #[.int .i64 x] r := by
  by_cases h0 : x = 0
  · subst h0
    apply Exists.intro
    intro W
    go_enter Tryz.func98, Tryz.ntmps98
    go_wp2
    go_ret
    exact ⟨rfl, rfl⟩
  · have h1 : (x == 0) = false := by simpa using h0
    apply Exists.intro
    intro W
    go_enter Tryz.func98, Tryz.ntmps98
    go_wp2_with (first
      | (go_at_call 109; refine (mixK_calls _ _).mono ?_; rintro e w2 ⟨rfl, rfl⟩)
      | (go_at_call 108; refine (mixH_calls _ _ _).mono ?_; rintro e w2 ⟨rfl, rfl⟩)
      | (go_at_call 107; refine (finH_calls _ _ _).mono ?_; rintro e w2 ⟨rfl, rfl⟩))
    go_ret
    exact ⟨rfl, rfl⟩
noncomputable def longH (x : Int) : Int := Classical.choose (longh x)
theorem longH_calls (x : Int) : SaysU 98 #[.int .i64 x] (longH x) := Classical.choose_spec (longh x)
end Go.Proofs.YtmnblgaefdahhaaGreatDoor
