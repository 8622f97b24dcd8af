/-
  NARROWER THAN 'FOR EVERY INPUT', by the rows' own cells (each row's printed sentence says how): FingerOf: loops, laid · FingerEnds: loops, laid · FingerSteps: loops, laid · FingerValue: loops, laid · SplitFinds: loops, laid · SplitTurns: loops, laid · SplitDeep: loops, laid · SplitLaws: loops, laid · SplitCuts: loops, laid · SplitOne: loops, laid.
  DERIVED. THE GIVEN ROWS OF THIS SEAT. 10 by the template 'for every input the law returns true; each argument reads behind the call as it read before'; 0 by the template 'total and deterministic' (their statements: YtjjbhnkplbjfeaaDoorTotals.lean).
  GIVEN WITH THE SEED: the statements are not yours to turn. If you find one false, say at which input.
  Laid BY PROGRAM, IN A SANDBOX (cutbox-rows.mjs): the forced cells as the released guide's own fill.sh prints them over the translation cb2d30d2d0c2d292… (all of the seat's roots in one cut). By AI agents, Wed Nov 11 2026. No macro, syntax, notation, axiom, sorry.
-/
import Derived.Test.YtjjbhnkplbjfeaaDoorChecked
import GoSem.PinnedTables
import GoSem.Claim
import GoSem.ClaimJoined
import GoSem.ClaimMapViews
import Derived.JoinedTies
import Derived.KernelRfl
namespace Go.Proofs.YtjjbhnkplbjfeaaDoor
/- THE CELL 'sum', in the pinned program and in every row, IS THE sha256 OF THE DUMP (.gsa) THAT YtjjbhnkplbjfeaaDoorProg.lean LOADS. Nothing in Lean hashes anything: it is a label: what it is worth is what the hold of that sum in a sandbox is worth. -/
noncomputable def Tryd.pinned : Pinned := { name := "ytjjbhnkplbjfeaadoor", sum := "cb2d30d2d0c2d292b704cce4c3f519cc59115003ceeb444cf0bc606e52ba1969", checked := Tryd.checked }
namespace Rows
def none {H : Type} : Left H := { results := [], args := [] }

/- WHAT THE LISTED PACKAGE-LEVEL VARIABLES READ AS WHEN THE CALL BEGINS. Each datum BY PROGRAM (the guide's laid-datum.mjs) off the statement by which the dump's own 'gosem.cut.vars' lays the variable. In a bare row this is a premise. The card (YtjjbhnkplbjfeaaDoorCards.lean) ties it to the program's text. -/
def laid_unicode_utf8_acceptRanges {H : Type} : DataW H := .agg [.agg [.lit (.int .u8 128), .lit (.int .u8 191)], .agg [.lit (.int .u8 160), .lit (.int .u8 191)], .agg [.lit (.int .u8 128), .lit (.int .u8 159)], .agg [.lit (.int .u8 144), .lit (.int .u8 191)], .agg [.lit (.int .u8 128), .lit (.int .u8 143)], .agg [.lit (.int .u8 0), .lit (.int .u8 0)], .agg [.lit (.int .u8 0), .lit (.int .u8 0)], .agg [.lit (.int .u8 0), .lit (.int .u8 0)], .agg [.lit (.int .u8 0), .lit (.int .u8 0)], .agg [.lit (.int .u8 0), .lit (.int .u8 0)], .agg [.lit (.int .u8 0), .lit (.int .u8 0)], .agg [.lit (.int .u8 0), .lit (.int .u8 0)], .agg [.lit (.int .u8 0), .lit (.int .u8 0)], .agg [.lit (.int .u8 0), .lit (.int .u8 0)], .agg [.lit (.int .u8 0), .lit (.int .u8 0)], .agg [.lit (.int .u8 0), .lit (.int .u8 0)]]
/-- One of Go's own tables, pinned by name: the form's constant. -/
def laid_unicode_utf8_first : DataW Unit := Go.Pinned.utf8First

/-- 'spinneylaw17.FingerOf': WHATEVER THE INPUT: true; the input reads as it did. -/
def fingerOfSpec : ChangeSpec := { name := "fingerOf", fn := fun _ => fun
  | [d1, d2] => { results := [.lit (.bool true)], args := [d1, d2] }
  | _ => none }
def fingerOfRow : OpenClaim := { program := "ytjjbhnkplbjfeaadoor", sum := "cb2d30d2d0c2d292b704cce4c3f519cc59115003ceeb444cf0bc606e52ba1969", func := "spinney/spinneylaw17.FingerOf", spec := "fingerOf", inPlace := ["internal/bytealg.abigen_runtime_cmpstring"], unfollowed := true, recurses := true, named := ["unicode/utf8.first", "unicode/utf8.acceptRanges"], loops := true, apart := false, laid := [("unicode/utf8.acceptRanges", laid_unicode_utf8_acceptRanges), ("unicode/utf8.first", laid_unicode_utf8_first)] }
def FingerOfSaid : Prop := fingerOfRow.holds Tryd.pinned (OpenSpec.ofChange fingerOfSpec)

/-- ITS FALSE NEIGHBOUR: 'it returns false'. Refute it at one input. -/
def fingerOfWrong : ChangeSpec := { name := "fingerOf", fn := fun _ => fun
  | [d1, d2] => { results := [.lit (.bool false)], args := [d1, d2] }
  | _ => none }
def FingerOfWrongFalsely : Prop := fingerOfRow.holds Tryd.pinned (OpenSpec.ofChange fingerOfWrong)

/-- 'spinneylaw17.FingerEnds': WHATEVER THE INPUT: true; the input reads as it did. -/
def fingerEndsSpec : ChangeSpec := { name := "fingerEnds", fn := fun _ => fun
  | [d1, d2] => { results := [.lit (.bool true)], args := [d1, d2] }
  | _ => none }
def fingerEndsRow : OpenClaim := { program := "ytjjbhnkplbjfeaadoor", sum := "cb2d30d2d0c2d292b704cce4c3f519cc59115003ceeb444cf0bc606e52ba1969", func := "spinney/spinneylaw17.FingerEnds", spec := "fingerEnds", inPlace := ["internal/bytealg.abigen_runtime_cmpstring"], unfollowed := true, recurses := true, named := ["unicode/utf8.first", "unicode/utf8.acceptRanges"], loops := true, apart := false, laid := [("unicode/utf8.acceptRanges", laid_unicode_utf8_acceptRanges), ("unicode/utf8.first", laid_unicode_utf8_first)] }
def FingerEndsSaid : Prop := fingerEndsRow.holds Tryd.pinned (OpenSpec.ofChange fingerEndsSpec)

/-- ITS FALSE NEIGHBOUR: 'it returns false'. Refute it at one input. -/
def fingerEndsWrong : ChangeSpec := { name := "fingerEnds", fn := fun _ => fun
  | [d1, d2] => { results := [.lit (.bool false)], args := [d1, d2] }
  | _ => none }
def FingerEndsWrongFalsely : Prop := fingerEndsRow.holds Tryd.pinned (OpenSpec.ofChange fingerEndsWrong)

/-- 'spinneylaw17.FingerSteps': WHATEVER THE INPUT: true; the input reads as it did. -/
def fingerStepsSpec : ChangeSpec := { name := "fingerSteps", fn := fun _ => fun
  | [d1, d2] => { results := [.lit (.bool true)], args := [d1, d2] }
  | _ => none }
def fingerStepsRow : OpenClaim := { program := "ytjjbhnkplbjfeaadoor", sum := "cb2d30d2d0c2d292b704cce4c3f519cc59115003ceeb444cf0bc606e52ba1969", func := "spinney/spinneylaw17.FingerSteps", spec := "fingerSteps", inPlace := ["internal/bytealg.abigen_runtime_cmpstring"], unfollowed := true, recurses := true, named := ["unicode/utf8.first", "unicode/utf8.acceptRanges"], loops := true, apart := false, laid := [("unicode/utf8.acceptRanges", laid_unicode_utf8_acceptRanges), ("unicode/utf8.first", laid_unicode_utf8_first)] }
def FingerStepsSaid : Prop := fingerStepsRow.holds Tryd.pinned (OpenSpec.ofChange fingerStepsSpec)

/-- ITS FALSE NEIGHBOUR: 'it returns false'. Refute it at one input. -/
def fingerStepsWrong : ChangeSpec := { name := "fingerSteps", fn := fun _ => fun
  | [d1, d2] => { results := [.lit (.bool false)], args := [d1, d2] }
  | _ => none }
def FingerStepsWrongFalsely : Prop := fingerStepsRow.holds Tryd.pinned (OpenSpec.ofChange fingerStepsWrong)

/-- 'spinneylaw17.FingerValue': WHATEVER THE INPUT: true; the input reads as it did. -/
def fingerValueSpec : ChangeSpec := { name := "fingerValue", fn := fun _ => fun
  | [d] => { results := [.lit (.bool true)], args := [d] }
  | _ => none }
def fingerValueRow : OpenClaim := { program := "ytjjbhnkplbjfeaadoor", sum := "cb2d30d2d0c2d292b704cce4c3f519cc59115003ceeb444cf0bc606e52ba1969", func := "spinney/spinneylaw17.FingerValue", spec := "fingerValue", inPlace := ["internal/bytealg.abigen_runtime_cmpstring"], unfollowed := true, recurses := true, named := ["unicode/utf8.first", "unicode/utf8.acceptRanges"], loops := true, apart := false, laid := [("unicode/utf8.acceptRanges", laid_unicode_utf8_acceptRanges), ("unicode/utf8.first", laid_unicode_utf8_first)] }
def FingerValueSaid : Prop := fingerValueRow.holds Tryd.pinned (OpenSpec.ofChange fingerValueSpec)

/-- ITS FALSE NEIGHBOUR: 'it returns false'. Refute it at one input. -/
def fingerValueWrong : ChangeSpec := { name := "fingerValue", fn := fun _ => fun
  | [d] => { results := [.lit (.bool false)], args := [d] }
  | _ => none }
def FingerValueWrongFalsely : Prop := fingerValueRow.holds Tryd.pinned (OpenSpec.ofChange fingerValueWrong)

/-- 'spinneylaw18.SplitFinds': WHATEVER THE INPUT: true; the input reads as it did. -/
def splitFindsSpec : ChangeSpec := { name := "splitFinds", fn := fun _ => fun
  | [d1, d2] => { results := [.lit (.bool true)], args := [d1, d2] }
  | _ => none }
def splitFindsRow : OpenClaim := { program := "ytjjbhnkplbjfeaadoor", sum := "cb2d30d2d0c2d292b704cce4c3f519cc59115003ceeb444cf0bc606e52ba1969", func := "spinney/spinneylaw18.SplitFinds", spec := "splitFinds", inPlace := ["internal/bytealg.abigen_runtime_cmpstring"], unfollowed := true, recurses := true, named := ["unicode/utf8.first", "unicode/utf8.acceptRanges"], loops := true, apart := false, laid := [("unicode/utf8.acceptRanges", laid_unicode_utf8_acceptRanges), ("unicode/utf8.first", laid_unicode_utf8_first)] }
def SplitFindsSaid : Prop := splitFindsRow.holds Tryd.pinned (OpenSpec.ofChange splitFindsSpec)

/-- ITS FALSE NEIGHBOUR: 'it returns false'. Refute it at one input. -/
def splitFindsWrong : ChangeSpec := { name := "splitFinds", fn := fun _ => fun
  | [d1, d2] => { results := [.lit (.bool false)], args := [d1, d2] }
  | _ => none }
def SplitFindsWrongFalsely : Prop := splitFindsRow.holds Tryd.pinned (OpenSpec.ofChange splitFindsWrong)

/-- 'spinneylaw18.SplitTurns': WHATEVER THE INPUT: true; the input reads as it did. -/
def splitTurnsSpec : ChangeSpec := { name := "splitTurns", fn := fun _ => fun
  | [d1, d2] => { results := [.lit (.bool true)], args := [d1, d2] }
  | _ => none }
def splitTurnsRow : OpenClaim := { program := "ytjjbhnkplbjfeaadoor", sum := "cb2d30d2d0c2d292b704cce4c3f519cc59115003ceeb444cf0bc606e52ba1969", func := "spinney/spinneylaw18.SplitTurns", spec := "splitTurns", inPlace := ["internal/bytealg.abigen_runtime_cmpstring"], unfollowed := true, recurses := true, named := ["unicode/utf8.first", "unicode/utf8.acceptRanges"], loops := true, apart := false, laid := [("unicode/utf8.acceptRanges", laid_unicode_utf8_acceptRanges), ("unicode/utf8.first", laid_unicode_utf8_first)] }
def SplitTurnsSaid : Prop := splitTurnsRow.holds Tryd.pinned (OpenSpec.ofChange splitTurnsSpec)

/-- ITS FALSE NEIGHBOUR: 'it returns false'. Refute it at one input. -/
def splitTurnsWrong : ChangeSpec := { name := "splitTurns", fn := fun _ => fun
  | [d1, d2] => { results := [.lit (.bool false)], args := [d1, d2] }
  | _ => none }
def SplitTurnsWrongFalsely : Prop := splitTurnsRow.holds Tryd.pinned (OpenSpec.ofChange splitTurnsWrong)

/-- 'spinneylaw18.SplitDeep': WHATEVER THE INPUT: true; the input reads as it did. -/
def splitDeepSpec : ChangeSpec := { name := "splitDeep", fn := fun _ => fun
  | [d1, d2] => { results := [.lit (.bool true)], args := [d1, d2] }
  | _ => none }
def splitDeepRow : OpenClaim := { program := "ytjjbhnkplbjfeaadoor", sum := "cb2d30d2d0c2d292b704cce4c3f519cc59115003ceeb444cf0bc606e52ba1969", func := "spinney/spinneylaw18.SplitDeep", spec := "splitDeep", inPlace := ["internal/bytealg.abigen_runtime_cmpstring"], unfollowed := true, recurses := true, named := ["unicode/utf8.first", "unicode/utf8.acceptRanges"], loops := true, apart := false, laid := [("unicode/utf8.acceptRanges", laid_unicode_utf8_acceptRanges), ("unicode/utf8.first", laid_unicode_utf8_first)] }
def SplitDeepSaid : Prop := splitDeepRow.holds Tryd.pinned (OpenSpec.ofChange splitDeepSpec)

/-- ITS FALSE NEIGHBOUR: 'it returns false'. Refute it at one input. -/
def splitDeepWrong : ChangeSpec := { name := "splitDeep", fn := fun _ => fun
  | [d1, d2] => { results := [.lit (.bool false)], args := [d1, d2] }
  | _ => none }
def SplitDeepWrongFalsely : Prop := splitDeepRow.holds Tryd.pinned (OpenSpec.ofChange splitDeepWrong)

/-- 'spinneylaw18.SplitLaws': WHATEVER THE INPUT: true; the input reads as it did. -/
def splitLawsSpec : ChangeSpec := { name := "splitLaws", fn := fun _ => fun
  | [d1, d2] => { results := [.lit (.bool true)], args := [d1, d2] }
  | _ => none }
def splitLawsRow : OpenClaim := { program := "ytjjbhnkplbjfeaadoor", sum := "cb2d30d2d0c2d292b704cce4c3f519cc59115003ceeb444cf0bc606e52ba1969", func := "spinney/spinneylaw18.SplitLaws", spec := "splitLaws", inPlace := ["internal/bytealg.abigen_runtime_cmpstring"], unfollowed := true, recurses := true, named := ["unicode/utf8.first", "unicode/utf8.acceptRanges"], loops := true, apart := false, laid := [("unicode/utf8.acceptRanges", laid_unicode_utf8_acceptRanges), ("unicode/utf8.first", laid_unicode_utf8_first)] }
def SplitLawsSaid : Prop := splitLawsRow.holds Tryd.pinned (OpenSpec.ofChange splitLawsSpec)

/-- ITS FALSE NEIGHBOUR: 'it returns false'. Refute it at one input. -/
def splitLawsWrong : ChangeSpec := { name := "splitLaws", fn := fun _ => fun
  | [d1, d2] => { results := [.lit (.bool false)], args := [d1, d2] }
  | _ => none }
def SplitLawsWrongFalsely : Prop := splitLawsRow.holds Tryd.pinned (OpenSpec.ofChange splitLawsWrong)

/-- 'spinneylaw18.SplitCuts': WHATEVER THE INPUT: true; the input reads as it did. -/
def splitCutsSpec : ChangeSpec := { name := "splitCuts", fn := fun _ => fun
  | [d1, d2, d3] => { results := [.lit (.bool true)], args := [d1, d2, d3] }
  | _ => none }
def splitCutsRow : OpenClaim := { program := "ytjjbhnkplbjfeaadoor", sum := "cb2d30d2d0c2d292b704cce4c3f519cc59115003ceeb444cf0bc606e52ba1969", func := "spinney/spinneylaw18.SplitCuts", spec := "splitCuts", inPlace := ["internal/bytealg.abigen_runtime_cmpstring"], unfollowed := true, recurses := true, named := ["unicode/utf8.first", "unicode/utf8.acceptRanges"], loops := true, apart := false, laid := [("unicode/utf8.acceptRanges", laid_unicode_utf8_acceptRanges), ("unicode/utf8.first", laid_unicode_utf8_first)] }
def SplitCutsSaid : Prop := splitCutsRow.holds Tryd.pinned (OpenSpec.ofChange splitCutsSpec)

/-- ITS FALSE NEIGHBOUR: 'it returns false'. Refute it at one input. -/
def splitCutsWrong : ChangeSpec := { name := "splitCuts", fn := fun _ => fun
  | [d1, d2, d3] => { results := [.lit (.bool false)], args := [d1, d2, d3] }
  | _ => none }
def SplitCutsWrongFalsely : Prop := splitCutsRow.holds Tryd.pinned (OpenSpec.ofChange splitCutsWrong)

/-- 'spinneylaw18.SplitOne': WHATEVER THE INPUT: true; the input reads as it did. -/
def splitOneSpec : ChangeSpec := { name := "splitOne", fn := fun _ => fun
  | [d1, d2, d3] => { results := [.lit (.bool true)], args := [d1, d2, d3] }
  | _ => none }
def splitOneRow : OpenClaim := { program := "ytjjbhnkplbjfeaadoor", sum := "cb2d30d2d0c2d292b704cce4c3f519cc59115003ceeb444cf0bc606e52ba1969", func := "spinney/spinneylaw18.SplitOne", spec := "splitOne", inPlace := ["internal/bytealg.abigen_runtime_cmpstring"], unfollowed := true, recurses := true, named := ["unicode/utf8.first", "unicode/utf8.acceptRanges"], loops := true, apart := false, laid := [("unicode/utf8.acceptRanges", laid_unicode_utf8_acceptRanges), ("unicode/utf8.first", laid_unicode_utf8_first)] }
def SplitOneSaid : Prop := splitOneRow.holds Tryd.pinned (OpenSpec.ofChange splitOneSpec)

/-- ITS FALSE NEIGHBOUR: 'it returns false'. Refute it at one input. -/
def splitOneWrong : ChangeSpec := { name := "splitOne", fn := fun _ => fun
  | [d1, d2, d3] => { results := [.lit (.bool false)], args := [d1, d2, d3] }
  | _ => none }
def SplitOneWrongFalsely : Prop := splitOneRow.holds Tryd.pinned (OpenSpec.ofChange splitOneWrong)

/- THE SECOND FORM. 'bulk': how many values and letters a reading holds, each counted each time it is reached (what is shared counts as often as it is met; a slice's spare places count too). A statement '..UptoSaid' is the law's where the arguments, and the package variables that the reading takes, are together of bulk at most 1048576: NARROWER than '..Said'. Prove '..Said' where nothing that the law and all that it calls make is longer than what came in: it says more and counts as full. Else prove '..UptoSaid'. A law counts once. -/
mutual
def uptoBulk {H : Type} : DataW H → Nat
  | .lit (.string bytes) => bytes.length + 1
  | .lit _ => 1
  | .nil => 1
  | .ptr d => uptoBulk d + 1
  | .slice elems spare => uptoBulkAll elems + uptoBulkAll spare + 1
  | .agg parts => uptoBulkAll parts + 1
  | .iface _ d => uptoBulk d + 1
  | .map entries => uptoBulkEntries entries + 1
  | .held _ => 1
def uptoBulkAll {H : Type} : List (DataW H) → Nat
  | [] => 0
  | d :: r => uptoBulk d + uptoBulkAll r
def uptoBulkEntries {H : Type} : List (Lit × DataW H) → Nat
  | [] => 0
  | x :: r => uptoBulkEntry x + uptoBulkEntries r
def uptoBulkEntry {H : Type} : Lit × DataW H → Nat
  | (.string bytes, d) => bytes.length + uptoBulk d + 1
  | (_, d) => uptoBulk d + 1
 end
def uptoSmall : (H : Type) → List (DataW H) → Bool := fun _ ds => decide (uptoBulkAll ds ≤ 1048576)
def OpenSpec.upto (s : _root_.Go.ChangeSpec) : _root_.Go.OpenSpec := { _root_.Go.OpenSpec.ofChange s with cond := some uptoSmall }

/-- 'spinneylaw17.FingerOf', WHERE WHAT IT READS IS OF BULK AT MOST 1048576: true; the input reads as it did. -/
def fingerOfUptoRow : OpenClaim := { program := "ytjjbhnkplbjfeaadoor", sum := "cb2d30d2d0c2d292b704cce4c3f519cc59115003ceeb444cf0bc606e52ba1969", func := "spinney/spinneylaw17.FingerOf", spec := "fingerOf", inPlace := ["internal/bytealg.abigen_runtime_cmpstring"], unfollowed := true, recurses := true, named := ["unicode/utf8.first", "unicode/utf8.acceptRanges"], loops := true, apart := false, laid := [("unicode/utf8.acceptRanges", laid_unicode_utf8_acceptRanges), ("unicode/utf8.first", laid_unicode_utf8_first)], narrowed := true }
def FingerOfUptoSaid : Prop := fingerOfUptoRow.holds Tryd.pinned (OpenSpec.upto fingerOfSpec)

/-- 'spinneylaw17.FingerEnds', WHERE WHAT IT READS IS OF BULK AT MOST 1048576: true; the input reads as it did. -/
def fingerEndsUptoRow : OpenClaim := { program := "ytjjbhnkplbjfeaadoor", sum := "cb2d30d2d0c2d292b704cce4c3f519cc59115003ceeb444cf0bc606e52ba1969", func := "spinney/spinneylaw17.FingerEnds", spec := "fingerEnds", inPlace := ["internal/bytealg.abigen_runtime_cmpstring"], unfollowed := true, recurses := true, named := ["unicode/utf8.first", "unicode/utf8.acceptRanges"], loops := true, apart := false, laid := [("unicode/utf8.acceptRanges", laid_unicode_utf8_acceptRanges), ("unicode/utf8.first", laid_unicode_utf8_first)], narrowed := true }
def FingerEndsUptoSaid : Prop := fingerEndsUptoRow.holds Tryd.pinned (OpenSpec.upto fingerEndsSpec)

/-- 'spinneylaw17.FingerSteps', WHERE WHAT IT READS IS OF BULK AT MOST 1048576: true; the input reads as it did. -/
def fingerStepsUptoRow : OpenClaim := { program := "ytjjbhnkplbjfeaadoor", sum := "cb2d30d2d0c2d292b704cce4c3f519cc59115003ceeb444cf0bc606e52ba1969", func := "spinney/spinneylaw17.FingerSteps", spec := "fingerSteps", inPlace := ["internal/bytealg.abigen_runtime_cmpstring"], unfollowed := true, recurses := true, named := ["unicode/utf8.first", "unicode/utf8.acceptRanges"], loops := true, apart := false, laid := [("unicode/utf8.acceptRanges", laid_unicode_utf8_acceptRanges), ("unicode/utf8.first", laid_unicode_utf8_first)], narrowed := true }
def FingerStepsUptoSaid : Prop := fingerStepsUptoRow.holds Tryd.pinned (OpenSpec.upto fingerStepsSpec)

/-- 'spinneylaw17.FingerValue', WHERE WHAT IT READS IS OF BULK AT MOST 1048576: true; the input reads as it did. -/
def fingerValueUptoRow : OpenClaim := { program := "ytjjbhnkplbjfeaadoor", sum := "cb2d30d2d0c2d292b704cce4c3f519cc59115003ceeb444cf0bc606e52ba1969", func := "spinney/spinneylaw17.FingerValue", spec := "fingerValue", inPlace := ["internal/bytealg.abigen_runtime_cmpstring"], unfollowed := true, recurses := true, named := ["unicode/utf8.first", "unicode/utf8.acceptRanges"], loops := true, apart := false, laid := [("unicode/utf8.acceptRanges", laid_unicode_utf8_acceptRanges), ("unicode/utf8.first", laid_unicode_utf8_first)], narrowed := true }
def FingerValueUptoSaid : Prop := fingerValueUptoRow.holds Tryd.pinned (OpenSpec.upto fingerValueSpec)

/-- 'spinneylaw18.SplitFinds', WHERE WHAT IT READS IS OF BULK AT MOST 1048576: true; the input reads as it did. -/
def splitFindsUptoRow : OpenClaim := { program := "ytjjbhnkplbjfeaadoor", sum := "cb2d30d2d0c2d292b704cce4c3f519cc59115003ceeb444cf0bc606e52ba1969", func := "spinney/spinneylaw18.SplitFinds", spec := "splitFinds", inPlace := ["internal/bytealg.abigen_runtime_cmpstring"], unfollowed := true, recurses := true, named := ["unicode/utf8.first", "unicode/utf8.acceptRanges"], loops := true, apart := false, laid := [("unicode/utf8.acceptRanges", laid_unicode_utf8_acceptRanges), ("unicode/utf8.first", laid_unicode_utf8_first)], narrowed := true }
def SplitFindsUptoSaid : Prop := splitFindsUptoRow.holds Tryd.pinned (OpenSpec.upto splitFindsSpec)

/-- 'spinneylaw18.SplitTurns', WHERE WHAT IT READS IS OF BULK AT MOST 1048576: true; the input reads as it did. -/
def splitTurnsUptoRow : OpenClaim := { program := "ytjjbhnkplbjfeaadoor", sum := "cb2d30d2d0c2d292b704cce4c3f519cc59115003ceeb444cf0bc606e52ba1969", func := "spinney/spinneylaw18.SplitTurns", spec := "splitTurns", inPlace := ["internal/bytealg.abigen_runtime_cmpstring"], unfollowed := true, recurses := true, named := ["unicode/utf8.first", "unicode/utf8.acceptRanges"], loops := true, apart := false, laid := [("unicode/utf8.acceptRanges", laid_unicode_utf8_acceptRanges), ("unicode/utf8.first", laid_unicode_utf8_first)], narrowed := true }
def SplitTurnsUptoSaid : Prop := splitTurnsUptoRow.holds Tryd.pinned (OpenSpec.upto splitTurnsSpec)

/-- 'spinneylaw18.SplitDeep', WHERE WHAT IT READS IS OF BULK AT MOST 1048576: true; the input reads as it did. -/
def splitDeepUptoRow : OpenClaim := { program := "ytjjbhnkplbjfeaadoor", sum := "cb2d30d2d0c2d292b704cce4c3f519cc59115003ceeb444cf0bc606e52ba1969", func := "spinney/spinneylaw18.SplitDeep", spec := "splitDeep", inPlace := ["internal/bytealg.abigen_runtime_cmpstring"], unfollowed := true, recurses := true, named := ["unicode/utf8.first", "unicode/utf8.acceptRanges"], loops := true, apart := false, laid := [("unicode/utf8.acceptRanges", laid_unicode_utf8_acceptRanges), ("unicode/utf8.first", laid_unicode_utf8_first)], narrowed := true }
def SplitDeepUptoSaid : Prop := splitDeepUptoRow.holds Tryd.pinned (OpenSpec.upto splitDeepSpec)

/-- 'spinneylaw18.SplitLaws', WHERE WHAT IT READS IS OF BULK AT MOST 1048576: true; the input reads as it did. -/
def splitLawsUptoRow : OpenClaim := { program := "ytjjbhnkplbjfeaadoor", sum := "cb2d30d2d0c2d292b704cce4c3f519cc59115003ceeb444cf0bc606e52ba1969", func := "spinney/spinneylaw18.SplitLaws", spec := "splitLaws", inPlace := ["internal/bytealg.abigen_runtime_cmpstring"], unfollowed := true, recurses := true, named := ["unicode/utf8.first", "unicode/utf8.acceptRanges"], loops := true, apart := false, laid := [("unicode/utf8.acceptRanges", laid_unicode_utf8_acceptRanges), ("unicode/utf8.first", laid_unicode_utf8_first)], narrowed := true }
def SplitLawsUptoSaid : Prop := splitLawsUptoRow.holds Tryd.pinned (OpenSpec.upto splitLawsSpec)

/-- 'spinneylaw18.SplitCuts', WHERE WHAT IT READS IS OF BULK AT MOST 1048576: true; the input reads as it did. -/
def splitCutsUptoRow : OpenClaim := { program := "ytjjbhnkplbjfeaadoor", sum := "cb2d30d2d0c2d292b704cce4c3f519cc59115003ceeb444cf0bc606e52ba1969", func := "spinney/spinneylaw18.SplitCuts", spec := "splitCuts", inPlace := ["internal/bytealg.abigen_runtime_cmpstring"], unfollowed := true, recurses := true, named := ["unicode/utf8.first", "unicode/utf8.acceptRanges"], loops := true, apart := false, laid := [("unicode/utf8.acceptRanges", laid_unicode_utf8_acceptRanges), ("unicode/utf8.first", laid_unicode_utf8_first)], narrowed := true }
def SplitCutsUptoSaid : Prop := splitCutsUptoRow.holds Tryd.pinned (OpenSpec.upto splitCutsSpec)

/-- 'spinneylaw18.SplitOne', WHERE WHAT IT READS IS OF BULK AT MOST 1048576: true; the input reads as it did. -/
def splitOneUptoRow : OpenClaim := { program := "ytjjbhnkplbjfeaadoor", sum := "cb2d30d2d0c2d292b704cce4c3f519cc59115003ceeb444cf0bc606e52ba1969", func := "spinney/spinneylaw18.SplitOne", spec := "splitOne", inPlace := ["internal/bytealg.abigen_runtime_cmpstring"], unfollowed := true, recurses := true, named := ["unicode/utf8.first", "unicode/utf8.acceptRanges"], loops := true, apart := false, laid := [("unicode/utf8.acceptRanges", laid_unicode_utf8_acceptRanges), ("unicode/utf8.first", laid_unicode_utf8_first)], narrowed := true }
def SplitOneUptoSaid : Prop := splitOneUptoRow.holds Tryd.pinned (OpenSpec.upto splitOneSpec)

end Rows
end Go.Proofs.YtjjbhnkplbjfeaaDoor
