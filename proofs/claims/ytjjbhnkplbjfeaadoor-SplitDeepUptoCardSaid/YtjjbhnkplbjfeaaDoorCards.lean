/-
  DERIVED. GIVEN WITH THE SEED: THE CARDS: each row of YtjjbhnkplbjfeaaDoorRows.lean that lists a variable, with what it lists TIED to the program's text (the seventh form; the later family's looks); each row that meets fmt, with fmt's text TOLD by the authors' own Lean function (tested against real Go, not proved from fmt's source: count such statements apart). THE CARD IS WHAT COUNTS. Prove the row's statement (the work); the ties are given (YtjjbhnkplbjfeaaDoorTie.lean); close each card by the builder's one call (the guide's Derived/Test/ToyasCard.lean, 'card_holds'). Laid BY PROGRAM, IN A SANDBOX (cutbox-door.mjs). By AI agents, Wed Nov 11 2026. No macro, syntax, notation, axiom, sorry.
-/
import Derived.Test.YtjjbhnkplbjfeaaDoorRows
import GoSem.ClaimSeven
namespace Go.Proofs.YtjjbhnkplbjfeaaDoor
namespace Rows

/-- THE TIED CARD OF 'spinneylaw17.FingerOf'. -/
def fingerOfCard : Claim7 := { stood := { row := fingerOfRow, standIns := [], harness := (true, "ea4363441790845ee0f992de8fb25bf6e1a4bbfb49632c8fc81f3f0cd3996bb9"), looks := true }, kinds := [], alts := [], laidByText := true, laidKinds := [.data, .pinned], laidTests := true, laidLooks := .later }
def FingerOfCardSaid : Prop := Claim7.holds Tryd.pinned (.plain (OpenSpec.ofChange fingerOfSpec)) fingerOfCard

/-- THE TIED CARD OF 'spinneylaw17.FingerEnds'. -/
def fingerEndsCard : Claim7 := { stood := { row := fingerEndsRow, standIns := [], harness := (true, "ea4363441790845ee0f992de8fb25bf6e1a4bbfb49632c8fc81f3f0cd3996bb9"), looks := true }, kinds := [], alts := [], laidByText := true, laidKinds := [.data, .pinned], laidTests := true, laidLooks := .later }
def FingerEndsCardSaid : Prop := Claim7.holds Tryd.pinned (.plain (OpenSpec.ofChange fingerEndsSpec)) fingerEndsCard

/-- THE TIED CARD OF 'spinneylaw17.FingerSteps'. -/
def fingerStepsCard : Claim7 := { stood := { row := fingerStepsRow, standIns := [], harness := (true, "ea4363441790845ee0f992de8fb25bf6e1a4bbfb49632c8fc81f3f0cd3996bb9"), looks := true }, kinds := [], alts := [], laidByText := true, laidKinds := [.data, .pinned], laidTests := true, laidLooks := .later }
def FingerStepsCardSaid : Prop := Claim7.holds Tryd.pinned (.plain (OpenSpec.ofChange fingerStepsSpec)) fingerStepsCard

/-- THE TIED CARD OF 'spinneylaw17.FingerValue'. -/
def fingerValueCard : Claim7 := { stood := { row := fingerValueRow, standIns := [], harness := (true, "ea4363441790845ee0f992de8fb25bf6e1a4bbfb49632c8fc81f3f0cd3996bb9"), looks := true }, kinds := [], alts := [], laidByText := true, laidKinds := [.data, .pinned], laidTests := true, laidLooks := .later }
def FingerValueCardSaid : Prop := Claim7.holds Tryd.pinned (.plain (OpenSpec.ofChange fingerValueSpec)) fingerValueCard

/-- THE TIED CARD OF 'spinneylaw18.SplitFinds'. -/
def splitFindsCard : Claim7 := { stood := { row := splitFindsRow, standIns := [], harness := (true, "ea4363441790845ee0f992de8fb25bf6e1a4bbfb49632c8fc81f3f0cd3996bb9"), looks := true }, kinds := [], alts := [], laidByText := true, laidKinds := [.data, .pinned], laidTests := true, laidLooks := .later }
def SplitFindsCardSaid : Prop := Claim7.holds Tryd.pinned (.plain (OpenSpec.ofChange splitFindsSpec)) splitFindsCard

/-- THE TIED CARD OF 'spinneylaw18.SplitTurns'. -/
def splitTurnsCard : Claim7 := { stood := { row := splitTurnsRow, standIns := [], harness := (true, "ea4363441790845ee0f992de8fb25bf6e1a4bbfb49632c8fc81f3f0cd3996bb9"), looks := true }, kinds := [], alts := [], laidByText := true, laidKinds := [.data, .pinned], laidTests := true, laidLooks := .later }
def SplitTurnsCardSaid : Prop := Claim7.holds Tryd.pinned (.plain (OpenSpec.ofChange splitTurnsSpec)) splitTurnsCard

/-- THE TIED CARD OF 'spinneylaw18.SplitDeep'. -/
def splitDeepCard : Claim7 := { stood := { row := splitDeepRow, standIns := [], harness := (true, "ea4363441790845ee0f992de8fb25bf6e1a4bbfb49632c8fc81f3f0cd3996bb9"), looks := true }, kinds := [], alts := [], laidByText := true, laidKinds := [.data, .pinned], laidTests := true, laidLooks := .later }
def SplitDeepCardSaid : Prop := Claim7.holds Tryd.pinned (.plain (OpenSpec.ofChange splitDeepSpec)) splitDeepCard

/-- THE TIED CARD OF 'spinneylaw18.SplitLaws'. -/
def splitLawsCard : Claim7 := { stood := { row := splitLawsRow, standIns := [], harness := (true, "ea4363441790845ee0f992de8fb25bf6e1a4bbfb49632c8fc81f3f0cd3996bb9"), looks := true }, kinds := [], alts := [], laidByText := true, laidKinds := [.data, .pinned], laidTests := true, laidLooks := .later }
def SplitLawsCardSaid : Prop := Claim7.holds Tryd.pinned (.plain (OpenSpec.ofChange splitLawsSpec)) splitLawsCard

/-- THE TIED CARD OF 'spinneylaw18.SplitCuts'. -/
def splitCutsCard : Claim7 := { stood := { row := splitCutsRow, standIns := [], harness := (true, "ea4363441790845ee0f992de8fb25bf6e1a4bbfb49632c8fc81f3f0cd3996bb9"), looks := true }, kinds := [], alts := [], laidByText := true, laidKinds := [.data, .pinned], laidTests := true, laidLooks := .later }
def SplitCutsCardSaid : Prop := Claim7.holds Tryd.pinned (.plain (OpenSpec.ofChange splitCutsSpec)) splitCutsCard

/-- THE TIED CARD OF 'spinneylaw18.SplitOne'. -/
def splitOneCard : Claim7 := { stood := { row := splitOneRow, standIns := [], harness := (true, "ea4363441790845ee0f992de8fb25bf6e1a4bbfb49632c8fc81f3f0cd3996bb9"), looks := true }, kinds := [], alts := [], laidByText := true, laidKinds := [.data, .pinned], laidTests := true, laidLooks := .later }
def SplitOneCardSaid : Prop := Claim7.holds Tryd.pinned (.plain (OpenSpec.ofChange splitOneSpec)) splitOneCard

/-- THE SECOND FORM's CARD OF 'spinneylaw17.FingerOf'. -/
def fingerOfUptoCard : Claim7 := { stood := { row := fingerOfUptoRow, standIns := [], harness := (true, "ea4363441790845ee0f992de8fb25bf6e1a4bbfb49632c8fc81f3f0cd3996bb9"), looks := true }, kinds := [], alts := [], laidByText := true, laidKinds := [.data, .pinned], laidTests := true, laidLooks := .later }
def FingerOfUptoCardSaid : Prop := Claim7.holds Tryd.pinned (.plain (OpenSpec.upto fingerOfSpec)) fingerOfUptoCard

/-- THE SECOND FORM's CARD OF 'spinneylaw17.FingerEnds'. -/
def fingerEndsUptoCard : Claim7 := { stood := { row := fingerEndsUptoRow, standIns := [], harness := (true, "ea4363441790845ee0f992de8fb25bf6e1a4bbfb49632c8fc81f3f0cd3996bb9"), looks := true }, kinds := [], alts := [], laidByText := true, laidKinds := [.data, .pinned], laidTests := true, laidLooks := .later }
def FingerEndsUptoCardSaid : Prop := Claim7.holds Tryd.pinned (.plain (OpenSpec.upto fingerEndsSpec)) fingerEndsUptoCard

/-- THE SECOND FORM's CARD OF 'spinneylaw17.FingerSteps'. -/
def fingerStepsUptoCard : Claim7 := { stood := { row := fingerStepsUptoRow, standIns := [], harness := (true, "ea4363441790845ee0f992de8fb25bf6e1a4bbfb49632c8fc81f3f0cd3996bb9"), looks := true }, kinds := [], alts := [], laidByText := true, laidKinds := [.data, .pinned], laidTests := true, laidLooks := .later }
def FingerStepsUptoCardSaid : Prop := Claim7.holds Tryd.pinned (.plain (OpenSpec.upto fingerStepsSpec)) fingerStepsUptoCard

/-- THE SECOND FORM's CARD OF 'spinneylaw17.FingerValue'. -/
def fingerValueUptoCard : Claim7 := { stood := { row := fingerValueUptoRow, standIns := [], harness := (true, "ea4363441790845ee0f992de8fb25bf6e1a4bbfb49632c8fc81f3f0cd3996bb9"), looks := true }, kinds := [], alts := [], laidByText := true, laidKinds := [.data, .pinned], laidTests := true, laidLooks := .later }
def FingerValueUptoCardSaid : Prop := Claim7.holds Tryd.pinned (.plain (OpenSpec.upto fingerValueSpec)) fingerValueUptoCard

/-- THE SECOND FORM's CARD OF 'spinneylaw18.SplitFinds'. -/
def splitFindsUptoCard : Claim7 := { stood := { row := splitFindsUptoRow, standIns := [], harness := (true, "ea4363441790845ee0f992de8fb25bf6e1a4bbfb49632c8fc81f3f0cd3996bb9"), looks := true }, kinds := [], alts := [], laidByText := true, laidKinds := [.data, .pinned], laidTests := true, laidLooks := .later }
def SplitFindsUptoCardSaid : Prop := Claim7.holds Tryd.pinned (.plain (OpenSpec.upto splitFindsSpec)) splitFindsUptoCard

/-- THE SECOND FORM's CARD OF 'spinneylaw18.SplitTurns'. -/
def splitTurnsUptoCard : Claim7 := { stood := { row := splitTurnsUptoRow, standIns := [], harness := (true, "ea4363441790845ee0f992de8fb25bf6e1a4bbfb49632c8fc81f3f0cd3996bb9"), looks := true }, kinds := [], alts := [], laidByText := true, laidKinds := [.data, .pinned], laidTests := true, laidLooks := .later }
def SplitTurnsUptoCardSaid : Prop := Claim7.holds Tryd.pinned (.plain (OpenSpec.upto splitTurnsSpec)) splitTurnsUptoCard

/-- THE SECOND FORM's CARD OF 'spinneylaw18.SplitDeep'. -/
def splitDeepUptoCard : Claim7 := { stood := { row := splitDeepUptoRow, standIns := [], harness := (true, "ea4363441790845ee0f992de8fb25bf6e1a4bbfb49632c8fc81f3f0cd3996bb9"), looks := true }, kinds := [], alts := [], laidByText := true, laidKinds := [.data, .pinned], laidTests := true, laidLooks := .later }
def SplitDeepUptoCardSaid : Prop := Claim7.holds Tryd.pinned (.plain (OpenSpec.upto splitDeepSpec)) splitDeepUptoCard

/-- THE SECOND FORM's CARD OF 'spinneylaw18.SplitLaws'. -/
def splitLawsUptoCard : Claim7 := { stood := { row := splitLawsUptoRow, standIns := [], harness := (true, "ea4363441790845ee0f992de8fb25bf6e1a4bbfb49632c8fc81f3f0cd3996bb9"), looks := true }, kinds := [], alts := [], laidByText := true, laidKinds := [.data, .pinned], laidTests := true, laidLooks := .later }
def SplitLawsUptoCardSaid : Prop := Claim7.holds Tryd.pinned (.plain (OpenSpec.upto splitLawsSpec)) splitLawsUptoCard

/-- THE SECOND FORM's CARD OF 'spinneylaw18.SplitCuts'. -/
def splitCutsUptoCard : Claim7 := { stood := { row := splitCutsUptoRow, standIns := [], harness := (true, "ea4363441790845ee0f992de8fb25bf6e1a4bbfb49632c8fc81f3f0cd3996bb9"), looks := true }, kinds := [], alts := [], laidByText := true, laidKinds := [.data, .pinned], laidTests := true, laidLooks := .later }
def SplitCutsUptoCardSaid : Prop := Claim7.holds Tryd.pinned (.plain (OpenSpec.upto splitCutsSpec)) splitCutsUptoCard

/-- THE SECOND FORM's CARD OF 'spinneylaw18.SplitOne'. -/
def splitOneUptoCard : Claim7 := { stood := { row := splitOneUptoRow, standIns := [], harness := (true, "ea4363441790845ee0f992de8fb25bf6e1a4bbfb49632c8fc81f3f0cd3996bb9"), looks := true }, kinds := [], alts := [], laidByText := true, laidKinds := [.data, .pinned], laidTests := true, laidLooks := .later }
def SplitOneUptoCardSaid : Prop := Claim7.holds Tryd.pinned (.plain (OpenSpec.upto splitOneSpec)) splitOneUptoCard
end Rows
end Go.Proofs.YtjjbhnkplbjfeaaDoor
