/-
  NARROWER THAN 'FOR EVERY INPUT', by the rows' own cells (each row's printed sentence says how): RrbOf: loops, laid · RrbHeight: loops, laid · RrbSteps: loops, laid · RrbValue: loops, laid · TvecSteps: loops, laid · TvecSealed: loops, laid · TvecMany: loops, laid · TvecNil: loops, laid.
  DERIVED. THE GIVEN ROWS OF THIS SEAT. 8 by the template 'for every input the law returns true; each argument reads behind the call as it read before'; 0 by the template 'total and deterministic' (their statements: YtaeldfnihocljaaDoorTotals.lean).
  GIVEN WITH THE SEED: the statements are not yours to turn. If you find one false, say at which input.
  Laid BY PROGRAM, IN A SANDBOX (cutbox-rows.mjs): the forced cells as the released guide's own fill.sh prints them over the translation 4900a04cadb54688… (all of the seat's roots in one cut). By AI agents, Wed Nov 11 2026. No macro, syntax, notation, axiom, sorry.
-/
import Derived.Test.YtaeldfnihocljaaDoorChecked
import GoSem.PinnedTables
import GoSem.Claim
import GoSem.ClaimJoined
import GoSem.ClaimMapViews
import Derived.JoinedTies
import Derived.KernelRfl
namespace Go.Proofs.YtaeldfnihocljaaDoor
/- THE CELL 'sum', in the pinned program and in every row, IS THE sha256 OF THE DUMP (.gsa) THAT YtaeldfnihocljaaDoorProg.lean LOADS. Nothing in Lean hashes anything: it is a label: what it is worth is what the hold of that sum in a sandbox is worth. -/
noncomputable def Tryd.pinned : Pinned := { name := "ytaeldfnihocljaadoor", sum := "4900a04cadb54688092622607bf9d04c2d430d7bb55502deb30ddf408888d12f", checked := Tryd.checked }
namespace Rows
def none {H : Type} : Left H := { results := [], args := [] }

/- WHAT THE LISTED PACKAGE-LEVEL VARIABLES READ AS WHEN THE CALL BEGINS. Each datum BY PROGRAM (the guide's laid-datum.mjs) off the statement by which the dump's own 'gosem.cut.vars' lays the variable. In a bare row this is a premise. The card (YtaeldfnihocljaaDoorCards.lean) ties it to the program's text. -/
def laid_unicode_utf8_acceptRanges {H : Type} : DataW H := .agg [.agg [.lit (.int .u8 128), .lit (.int .u8 191)], .agg [.lit (.int .u8 160), .lit (.int .u8 191)], .agg [.lit (.int .u8 128), .lit (.int .u8 159)], .agg [.lit (.int .u8 144), .lit (.int .u8 191)], .agg [.lit (.int .u8 128), .lit (.int .u8 143)], .agg [.lit (.int .u8 0), .lit (.int .u8 0)], .agg [.lit (.int .u8 0), .lit (.int .u8 0)], .agg [.lit (.int .u8 0), .lit (.int .u8 0)], .agg [.lit (.int .u8 0), .lit (.int .u8 0)], .agg [.lit (.int .u8 0), .lit (.int .u8 0)], .agg [.lit (.int .u8 0), .lit (.int .u8 0)], .agg [.lit (.int .u8 0), .lit (.int .u8 0)], .agg [.lit (.int .u8 0), .lit (.int .u8 0)], .agg [.lit (.int .u8 0), .lit (.int .u8 0)], .agg [.lit (.int .u8 0), .lit (.int .u8 0)], .agg [.lit (.int .u8 0), .lit (.int .u8 0)]]
/-- One of Go's own tables, pinned by name: the form's constant. -/
def laid_unicode_utf8_first : DataW Unit := Go.Pinned.utf8First

/-- 'spinneylaw11.RrbOf': WHATEVER THE INPUT: true; the input reads as it did. -/
def rrbOfSpec : ChangeSpec := { name := "rrbOf", fn := fun _ => fun
  | [d1, d2] => { results := [.lit (.bool true)], args := [d1, d2] }
  | _ => none }
def rrbOfRow : OpenClaim := { program := "ytaeldfnihocljaadoor", sum := "4900a04cadb54688092622607bf9d04c2d430d7bb55502deb30ddf408888d12f", func := "spinney/spinneylaw11.RrbOf", spec := "rrbOf", inPlace := ["internal/bytealg.abigen_runtime_cmpstring"], unfollowed := true, recurses := true, named := ["unicode/utf8.first", "unicode/utf8.acceptRanges"], loops := true, apart := false, laid := [("unicode/utf8.acceptRanges", laid_unicode_utf8_acceptRanges), ("unicode/utf8.first", laid_unicode_utf8_first)] }
def RrbOfSaid : Prop := rrbOfRow.holds Tryd.pinned (OpenSpec.ofChange rrbOfSpec)

/-- ITS FALSE NEIGHBOUR: 'it returns false'. Refute it at one input. -/
def rrbOfWrong : ChangeSpec := { name := "rrbOf", fn := fun _ => fun
  | [d1, d2] => { results := [.lit (.bool false)], args := [d1, d2] }
  | _ => none }
def RrbOfWrongFalsely : Prop := rrbOfRow.holds Tryd.pinned (OpenSpec.ofChange rrbOfWrong)

/-- 'spinneylaw11.RrbHeight': WHATEVER THE INPUT: true; the input reads as it did. -/
def rrbHeightSpec : ChangeSpec := { name := "rrbHeight", fn := fun _ => fun
  | [d1, d2] => { results := [.lit (.bool true)], args := [d1, d2] }
  | _ => none }
def rrbHeightRow : OpenClaim := { program := "ytaeldfnihocljaadoor", sum := "4900a04cadb54688092622607bf9d04c2d430d7bb55502deb30ddf408888d12f", func := "spinney/spinneylaw11.RrbHeight", spec := "rrbHeight", inPlace := ["internal/bytealg.abigen_runtime_cmpstring"], unfollowed := true, recurses := true, named := ["unicode/utf8.first", "unicode/utf8.acceptRanges"], loops := true, apart := false, laid := [("unicode/utf8.acceptRanges", laid_unicode_utf8_acceptRanges), ("unicode/utf8.first", laid_unicode_utf8_first)] }
def RrbHeightSaid : Prop := rrbHeightRow.holds Tryd.pinned (OpenSpec.ofChange rrbHeightSpec)

/-- ITS FALSE NEIGHBOUR: 'it returns false'. Refute it at one input. -/
def rrbHeightWrong : ChangeSpec := { name := "rrbHeight", fn := fun _ => fun
  | [d1, d2] => { results := [.lit (.bool false)], args := [d1, d2] }
  | _ => none }
def RrbHeightWrongFalsely : Prop := rrbHeightRow.holds Tryd.pinned (OpenSpec.ofChange rrbHeightWrong)

/-- 'spinneylaw11.RrbSteps': WHATEVER THE INPUT: true; the input reads as it did. -/
def rrbStepsSpec : ChangeSpec := { name := "rrbSteps", fn := fun _ => fun
  | [d1, d2] => { results := [.lit (.bool true)], args := [d1, d2] }
  | _ => none }
def rrbStepsRow : OpenClaim := { program := "ytaeldfnihocljaadoor", sum := "4900a04cadb54688092622607bf9d04c2d430d7bb55502deb30ddf408888d12f", func := "spinney/spinneylaw11.RrbSteps", spec := "rrbSteps", inPlace := ["internal/bytealg.abigen_runtime_cmpstring"], unfollowed := true, recurses := true, named := ["unicode/utf8.first", "unicode/utf8.acceptRanges"], loops := true, apart := false, laid := [("unicode/utf8.acceptRanges", laid_unicode_utf8_acceptRanges), ("unicode/utf8.first", laid_unicode_utf8_first)] }
def RrbStepsSaid : Prop := rrbStepsRow.holds Tryd.pinned (OpenSpec.ofChange rrbStepsSpec)

/-- ITS FALSE NEIGHBOUR: 'it returns false'. Refute it at one input. -/
def rrbStepsWrong : ChangeSpec := { name := "rrbSteps", fn := fun _ => fun
  | [d1, d2] => { results := [.lit (.bool false)], args := [d1, d2] }
  | _ => none }
def RrbStepsWrongFalsely : Prop := rrbStepsRow.holds Tryd.pinned (OpenSpec.ofChange rrbStepsWrong)

/-- 'spinneylaw11.RrbValue': WHATEVER THE INPUT: true; the input reads as it did. -/
def rrbValueSpec : ChangeSpec := { name := "rrbValue", fn := fun _ => fun
  | [d1, d2] => { results := [.lit (.bool true)], args := [d1, d2] }
  | _ => none }
def rrbValueRow : OpenClaim := { program := "ytaeldfnihocljaadoor", sum := "4900a04cadb54688092622607bf9d04c2d430d7bb55502deb30ddf408888d12f", func := "spinney/spinneylaw11.RrbValue", spec := "rrbValue", inPlace := ["internal/bytealg.abigen_runtime_cmpstring"], unfollowed := true, recurses := true, named := ["unicode/utf8.first", "unicode/utf8.acceptRanges"], loops := true, apart := false, laid := [("unicode/utf8.acceptRanges", laid_unicode_utf8_acceptRanges), ("unicode/utf8.first", laid_unicode_utf8_first)] }
def RrbValueSaid : Prop := rrbValueRow.holds Tryd.pinned (OpenSpec.ofChange rrbValueSpec)

/-- ITS FALSE NEIGHBOUR: 'it returns false'. Refute it at one input. -/
def rrbValueWrong : ChangeSpec := { name := "rrbValue", fn := fun _ => fun
  | [d1, d2] => { results := [.lit (.bool false)], args := [d1, d2] }
  | _ => none }
def RrbValueWrongFalsely : Prop := rrbValueRow.holds Tryd.pinned (OpenSpec.ofChange rrbValueWrong)

/-- 'spinneylaw13.TvecSteps': WHATEVER THE INPUT: true; the input reads as it did. -/
def tvecStepsSpec : ChangeSpec := { name := "tvecSteps", fn := fun _ => fun
  | [d1, d2] => { results := [.lit (.bool true)], args := [d1, d2] }
  | _ => none }
def tvecStepsRow : OpenClaim := { program := "ytaeldfnihocljaadoor", sum := "4900a04cadb54688092622607bf9d04c2d430d7bb55502deb30ddf408888d12f", func := "spinney/spinneylaw13.TvecSteps", spec := "tvecSteps", inPlace := ["internal/bytealg.abigen_runtime_cmpstring"], unfollowed := true, recurses := true, named := ["unicode/utf8.first", "unicode/utf8.acceptRanges"], loops := true, apart := false, laid := [("unicode/utf8.acceptRanges", laid_unicode_utf8_acceptRanges), ("unicode/utf8.first", laid_unicode_utf8_first)] }
def TvecStepsSaid : Prop := tvecStepsRow.holds Tryd.pinned (OpenSpec.ofChange tvecStepsSpec)

/-- ITS FALSE NEIGHBOUR: 'it returns false'. Refute it at one input. -/
def tvecStepsWrong : ChangeSpec := { name := "tvecSteps", fn := fun _ => fun
  | [d1, d2] => { results := [.lit (.bool false)], args := [d1, d2] }
  | _ => none }
def TvecStepsWrongFalsely : Prop := tvecStepsRow.holds Tryd.pinned (OpenSpec.ofChange tvecStepsWrong)

/-- 'spinneylaw13.TvecSealed': WHATEVER THE INPUT: true; the input reads as it did. -/
def tvecSealedSpec : ChangeSpec := { name := "tvecSealed", fn := fun _ => fun
  | [d1, d2] => { results := [.lit (.bool true)], args := [d1, d2] }
  | _ => none }
def tvecSealedRow : OpenClaim := { program := "ytaeldfnihocljaadoor", sum := "4900a04cadb54688092622607bf9d04c2d430d7bb55502deb30ddf408888d12f", func := "spinney/spinneylaw13.TvecSealed", spec := "tvecSealed", inPlace := ["internal/bytealg.abigen_runtime_cmpstring"], unfollowed := true, recurses := true, named := ["unicode/utf8.first", "unicode/utf8.acceptRanges"], loops := true, apart := false, laid := [("unicode/utf8.acceptRanges", laid_unicode_utf8_acceptRanges), ("unicode/utf8.first", laid_unicode_utf8_first)] }
def TvecSealedSaid : Prop := tvecSealedRow.holds Tryd.pinned (OpenSpec.ofChange tvecSealedSpec)

/-- ITS FALSE NEIGHBOUR: 'it returns false'. Refute it at one input. -/
def tvecSealedWrong : ChangeSpec := { name := "tvecSealed", fn := fun _ => fun
  | [d1, d2] => { results := [.lit (.bool false)], args := [d1, d2] }
  | _ => none }
def TvecSealedWrongFalsely : Prop := tvecSealedRow.holds Tryd.pinned (OpenSpec.ofChange tvecSealedWrong)

/-- 'spinneylaw13.TvecMany': WHATEVER THE INPUT: true; the input reads as it did. -/
def tvecManySpec : ChangeSpec := { name := "tvecMany", fn := fun _ => fun
  | [d1, d2] => { results := [.lit (.bool true)], args := [d1, d2] }
  | _ => none }
def tvecManyRow : OpenClaim := { program := "ytaeldfnihocljaadoor", sum := "4900a04cadb54688092622607bf9d04c2d430d7bb55502deb30ddf408888d12f", func := "spinney/spinneylaw13.TvecMany", spec := "tvecMany", inPlace := ["internal/bytealg.abigen_runtime_cmpstring"], unfollowed := true, recurses := true, named := ["unicode/utf8.first", "unicode/utf8.acceptRanges"], loops := true, apart := false, laid := [("unicode/utf8.acceptRanges", laid_unicode_utf8_acceptRanges), ("unicode/utf8.first", laid_unicode_utf8_first)] }
def TvecManySaid : Prop := tvecManyRow.holds Tryd.pinned (OpenSpec.ofChange tvecManySpec)

/-- ITS FALSE NEIGHBOUR: 'it returns false'. Refute it at one input. -/
def tvecManyWrong : ChangeSpec := { name := "tvecMany", fn := fun _ => fun
  | [d1, d2] => { results := [.lit (.bool false)], args := [d1, d2] }
  | _ => none }
def TvecManyWrongFalsely : Prop := tvecManyRow.holds Tryd.pinned (OpenSpec.ofChange tvecManyWrong)

/-- 'spinneylaw13.TvecNil': WHATEVER THE INPUT: true; the input reads as it did. -/
def tvecNilSpec : ChangeSpec := { name := "tvecNil", fn := fun _ => fun
  | [d] => { results := [.lit (.bool true)], args := [d] }
  | _ => none }
def tvecNilRow : OpenClaim := { program := "ytaeldfnihocljaadoor", sum := "4900a04cadb54688092622607bf9d04c2d430d7bb55502deb30ddf408888d12f", func := "spinney/spinneylaw13.TvecNil", spec := "tvecNil", inPlace := ["internal/bytealg.abigen_runtime_cmpstring"], unfollowed := true, recurses := true, named := ["unicode/utf8.first", "unicode/utf8.acceptRanges"], loops := true, apart := false, laid := [("unicode/utf8.acceptRanges", laid_unicode_utf8_acceptRanges), ("unicode/utf8.first", laid_unicode_utf8_first)] }
def TvecNilSaid : Prop := tvecNilRow.holds Tryd.pinned (OpenSpec.ofChange tvecNilSpec)

/-- ITS FALSE NEIGHBOUR: 'it returns false'. Refute it at one input. -/
def tvecNilWrong : ChangeSpec := { name := "tvecNil", fn := fun _ => fun
  | [d] => { results := [.lit (.bool false)], args := [d] }
  | _ => none }
def TvecNilWrongFalsely : Prop := tvecNilRow.holds Tryd.pinned (OpenSpec.ofChange tvecNilWrong)

/- THE SECOND FORM. 'bulk': how many values and letters a reading holds, each counted each time it is reached (what is shared counts as often as it is met; a slice's spare places count too). A statement '..UptoSaid' is the law's where the arguments, and the package variables that the reading takes, are together of bulk at most 1048576: NARROWER than '..Said'. Prove '..Said' where nothing that the law and all that it calls make is longer than what came in: it says more and counts as full. Else prove '..UptoSaid'. A law counts once. -/
mutual
def uptoBulk {H : Type} : DataW H → Nat
  | .lit (.string bytes) => bytes.length + 1
  | .lit _ => 1
  | .nil => 1
  | .ptr d => uptoBulk d + 1
  | .slice elems spare => uptoBulkAll elems + uptoBulkAll spare + 1
  | .agg parts => uptoBulkAll parts + 1
  | .iface _ d => uptoBulk d + 1
  | .map entries => uptoBulkEntries entries + 1
  | .held _ => 1
def uptoBulkAll {H : Type} : List (DataW H) → Nat
  | [] => 0
  | d :: r => uptoBulk d + uptoBulkAll r
def uptoBulkEntries {H : Type} : List (Lit × DataW H) → Nat
  | [] => 0
  | x :: r => uptoBulkEntry x + uptoBulkEntries r
def uptoBulkEntry {H : Type} : Lit × DataW H → Nat
  | (.string bytes, d) => bytes.length + uptoBulk d + 1
  | (_, d) => uptoBulk d + 1
 end
def uptoSmall : (H : Type) → List (DataW H) → Bool := fun _ ds => decide (uptoBulkAll ds ≤ 1048576)
def OpenSpec.upto (s : _root_.Go.ChangeSpec) : _root_.Go.OpenSpec := { _root_.Go.OpenSpec.ofChange s with cond := some uptoSmall }

/-- 'spinneylaw11.RrbOf', WHERE WHAT IT READS IS OF BULK AT MOST 1048576: true; the input reads as it did. -/
def rrbOfUptoRow : OpenClaim := { program := "ytaeldfnihocljaadoor", sum := "4900a04cadb54688092622607bf9d04c2d430d7bb55502deb30ddf408888d12f", func := "spinney/spinneylaw11.RrbOf", spec := "rrbOf", inPlace := ["internal/bytealg.abigen_runtime_cmpstring"], unfollowed := true, recurses := true, named := ["unicode/utf8.first", "unicode/utf8.acceptRanges"], loops := true, apart := false, laid := [("unicode/utf8.acceptRanges", laid_unicode_utf8_acceptRanges), ("unicode/utf8.first", laid_unicode_utf8_first)], narrowed := true }
def RrbOfUptoSaid : Prop := rrbOfUptoRow.holds Tryd.pinned (OpenSpec.upto rrbOfSpec)

/-- 'spinneylaw11.RrbHeight', WHERE WHAT IT READS IS OF BULK AT MOST 1048576: true; the input reads as it did. -/
def rrbHeightUptoRow : OpenClaim := { program := "ytaeldfnihocljaadoor", sum := "4900a04cadb54688092622607bf9d04c2d430d7bb55502deb30ddf408888d12f", func := "spinney/spinneylaw11.RrbHeight", spec := "rrbHeight", inPlace := ["internal/bytealg.abigen_runtime_cmpstring"], unfollowed := true, recurses := true, named := ["unicode/utf8.first", "unicode/utf8.acceptRanges"], loops := true, apart := false, laid := [("unicode/utf8.acceptRanges", laid_unicode_utf8_acceptRanges), ("unicode/utf8.first", laid_unicode_utf8_first)], narrowed := true }
def RrbHeightUptoSaid : Prop := rrbHeightUptoRow.holds Tryd.pinned (OpenSpec.upto rrbHeightSpec)

/-- 'spinneylaw11.RrbSteps', WHERE WHAT IT READS IS OF BULK AT MOST 1048576: true; the input reads as it did. -/
def rrbStepsUptoRow : OpenClaim := { program := "ytaeldfnihocljaadoor", sum := "4900a04cadb54688092622607bf9d04c2d430d7bb55502deb30ddf408888d12f", func := "spinney/spinneylaw11.RrbSteps", spec := "rrbSteps", inPlace := ["internal/bytealg.abigen_runtime_cmpstring"], unfollowed := true, recurses := true, named := ["unicode/utf8.first", "unicode/utf8.acceptRanges"], loops := true, apart := false, laid := [("unicode/utf8.acceptRanges", laid_unicode_utf8_acceptRanges), ("unicode/utf8.first", laid_unicode_utf8_first)], narrowed := true }
def RrbStepsUptoSaid : Prop := rrbStepsUptoRow.holds Tryd.pinned (OpenSpec.upto rrbStepsSpec)

/-- 'spinneylaw11.RrbValue', WHERE WHAT IT READS IS OF BULK AT MOST 1048576: true; the input reads as it did. -/
def rrbValueUptoRow : OpenClaim := { program := "ytaeldfnihocljaadoor", sum := "4900a04cadb54688092622607bf9d04c2d430d7bb55502deb30ddf408888d12f", func := "spinney/spinneylaw11.RrbValue", spec := "rrbValue", inPlace := ["internal/bytealg.abigen_runtime_cmpstring"], unfollowed := true, recurses := true, named := ["unicode/utf8.first", "unicode/utf8.acceptRanges"], loops := true, apart := false, laid := [("unicode/utf8.acceptRanges", laid_unicode_utf8_acceptRanges), ("unicode/utf8.first", laid_unicode_utf8_first)], narrowed := true }
def RrbValueUptoSaid : Prop := rrbValueUptoRow.holds Tryd.pinned (OpenSpec.upto rrbValueSpec)

/-- 'spinneylaw13.TvecSteps', WHERE WHAT IT READS IS OF BULK AT MOST 1048576: true; the input reads as it did. -/
def tvecStepsUptoRow : OpenClaim := { program := "ytaeldfnihocljaadoor", sum := "4900a04cadb54688092622607bf9d04c2d430d7bb55502deb30ddf408888d12f", func := "spinney/spinneylaw13.TvecSteps", spec := "tvecSteps", inPlace := ["internal/bytealg.abigen_runtime_cmpstring"], unfollowed := true, recurses := true, named := ["unicode/utf8.first", "unicode/utf8.acceptRanges"], loops := true, apart := false, laid := [("unicode/utf8.acceptRanges", laid_unicode_utf8_acceptRanges), ("unicode/utf8.first", laid_unicode_utf8_first)], narrowed := true }
def TvecStepsUptoSaid : Prop := tvecStepsUptoRow.holds Tryd.pinned (OpenSpec.upto tvecStepsSpec)

/-- 'spinneylaw13.TvecSealed', WHERE WHAT IT READS IS OF BULK AT MOST 1048576: true; the input reads as it did. -/
def tvecSealedUptoRow : OpenClaim := { program := "ytaeldfnihocljaadoor", sum := "4900a04cadb54688092622607bf9d04c2d430d7bb55502deb30ddf408888d12f", func := "spinney/spinneylaw13.TvecSealed", spec := "tvecSealed", inPlace := ["internal/bytealg.abigen_runtime_cmpstring"], unfollowed := true, recurses := true, named := ["unicode/utf8.first", "unicode/utf8.acceptRanges"], loops := true, apart := false, laid := [("unicode/utf8.acceptRanges", laid_unicode_utf8_acceptRanges), ("unicode/utf8.first", laid_unicode_utf8_first)], narrowed := true }
def TvecSealedUptoSaid : Prop := tvecSealedUptoRow.holds Tryd.pinned (OpenSpec.upto tvecSealedSpec)

/-- 'spinneylaw13.TvecMany', WHERE WHAT IT READS IS OF BULK AT MOST 1048576: true; the input reads as it did. -/
def tvecManyUptoRow : OpenClaim := { program := "ytaeldfnihocljaadoor", sum := "4900a04cadb54688092622607bf9d04c2d430d7bb55502deb30ddf408888d12f", func := "spinney/spinneylaw13.TvecMany", spec := "tvecMany", inPlace := ["internal/bytealg.abigen_runtime_cmpstring"], unfollowed := true, recurses := true, named := ["unicode/utf8.first", "unicode/utf8.acceptRanges"], loops := true, apart := false, laid := [("unicode/utf8.acceptRanges", laid_unicode_utf8_acceptRanges), ("unicode/utf8.first", laid_unicode_utf8_first)], narrowed := true }
def TvecManyUptoSaid : Prop := tvecManyUptoRow.holds Tryd.pinned (OpenSpec.upto tvecManySpec)

/-- 'spinneylaw13.TvecNil', WHERE WHAT IT READS IS OF BULK AT MOST 1048576: true; the input reads as it did. -/
def tvecNilUptoRow : OpenClaim := { program := "ytaeldfnihocljaadoor", sum := "4900a04cadb54688092622607bf9d04c2d430d7bb55502deb30ddf408888d12f", func := "spinney/spinneylaw13.TvecNil", spec := "tvecNil", inPlace := ["internal/bytealg.abigen_runtime_cmpstring"], unfollowed := true, recurses := true, named := ["unicode/utf8.first", "unicode/utf8.acceptRanges"], loops := true, apart := false, laid := [("unicode/utf8.acceptRanges", laid_unicode_utf8_acceptRanges), ("unicode/utf8.first", laid_unicode_utf8_first)], narrowed := true }
def TvecNilUptoSaid : Prop := tvecNilUptoRow.holds Tryd.pinned (OpenSpec.upto tvecNilSpec)

end Rows
end Go.Proofs.YtaeldfnihocljaaDoor
