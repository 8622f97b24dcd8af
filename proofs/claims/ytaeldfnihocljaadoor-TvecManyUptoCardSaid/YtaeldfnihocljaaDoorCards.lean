/-
  DERIVED. GIVEN WITH THE SEED: THE CARDS: each row of YtaeldfnihocljaaDoorRows.lean that lists a variable, with what it lists TIED to the program's text (the seventh form; the later family's looks); each row that meets fmt, with fmt's text TOLD by the authors' own Lean function (tested against real Go, not proved from fmt's source: count such statements apart). THE CARD IS WHAT COUNTS. Prove the row's statement (the work); the ties are given (YtaeldfnihocljaaDoorTie.lean); close each card by the builder's one call (the guide's Derived/Test/ToyasCard.lean, 'card_holds'). Laid BY PROGRAM, IN A SANDBOX (cutbox-door.mjs). By AI agents, Wed Nov 11 2026. No macro, syntax, notation, axiom, sorry.
-/
import Derived.Test.YtaeldfnihocljaaDoorRows
import GoSem.ClaimSeven
namespace Go.Proofs.YtaeldfnihocljaaDoor
namespace Rows

/-- THE TIED CARD OF 'spinneylaw11.RrbOf'. -/
def rrbOfCard : Claim7 := { stood := { row := rrbOfRow, standIns := [], harness := (true, "1791eb8ff585d05e5ff2866c106e2972fa334e47aabfc1a28d372e97dc38a31e"), looks := true }, kinds := [], alts := [], laidByText := true, laidKinds := [.data, .pinned], laidTests := true, laidLooks := .later }
def RrbOfCardSaid : Prop := Claim7.holds Tryd.pinned (.plain (OpenSpec.ofChange rrbOfSpec)) rrbOfCard

/-- THE TIED CARD OF 'spinneylaw11.RrbHeight'. -/
def rrbHeightCard : Claim7 := { stood := { row := rrbHeightRow, standIns := [], harness := (true, "1791eb8ff585d05e5ff2866c106e2972fa334e47aabfc1a28d372e97dc38a31e"), looks := true }, kinds := [], alts := [], laidByText := true, laidKinds := [.data, .pinned], laidTests := true, laidLooks := .later }
def RrbHeightCardSaid : Prop := Claim7.holds Tryd.pinned (.plain (OpenSpec.ofChange rrbHeightSpec)) rrbHeightCard

/-- THE TIED CARD OF 'spinneylaw11.RrbSteps'. -/
def rrbStepsCard : Claim7 := { stood := { row := rrbStepsRow, standIns := [], harness := (true, "1791eb8ff585d05e5ff2866c106e2972fa334e47aabfc1a28d372e97dc38a31e"), looks := true }, kinds := [], alts := [], laidByText := true, laidKinds := [.data, .pinned], laidTests := true, laidLooks := .later }
def RrbStepsCardSaid : Prop := Claim7.holds Tryd.pinned (.plain (OpenSpec.ofChange rrbStepsSpec)) rrbStepsCard

/-- THE TIED CARD OF 'spinneylaw11.RrbValue'. -/
def rrbValueCard : Claim7 := { stood := { row := rrbValueRow, standIns := [], harness := (true, "1791eb8ff585d05e5ff2866c106e2972fa334e47aabfc1a28d372e97dc38a31e"), looks := true }, kinds := [], alts := [], laidByText := true, laidKinds := [.data, .pinned], laidTests := true, laidLooks := .later }
def RrbValueCardSaid : Prop := Claim7.holds Tryd.pinned (.plain (OpenSpec.ofChange rrbValueSpec)) rrbValueCard

/-- THE TIED CARD OF 'spinneylaw13.TvecSteps'. -/
def tvecStepsCard : Claim7 := { stood := { row := tvecStepsRow, standIns := [], harness := (true, "1791eb8ff585d05e5ff2866c106e2972fa334e47aabfc1a28d372e97dc38a31e"), looks := true }, kinds := [], alts := [], laidByText := true, laidKinds := [.data, .pinned], laidTests := true, laidLooks := .later }
def TvecStepsCardSaid : Prop := Claim7.holds Tryd.pinned (.plain (OpenSpec.ofChange tvecStepsSpec)) tvecStepsCard

/-- THE TIED CARD OF 'spinneylaw13.TvecSealed'. -/
def tvecSealedCard : Claim7 := { stood := { row := tvecSealedRow, standIns := [], harness := (true, "1791eb8ff585d05e5ff2866c106e2972fa334e47aabfc1a28d372e97dc38a31e"), looks := true }, kinds := [], alts := [], laidByText := true, laidKinds := [.data, .pinned], laidTests := true, laidLooks := .later }
def TvecSealedCardSaid : Prop := Claim7.holds Tryd.pinned (.plain (OpenSpec.ofChange tvecSealedSpec)) tvecSealedCard

/-- THE TIED CARD OF 'spinneylaw13.TvecMany'. -/
def tvecManyCard : Claim7 := { stood := { row := tvecManyRow, standIns := [], harness := (true, "1791eb8ff585d05e5ff2866c106e2972fa334e47aabfc1a28d372e97dc38a31e"), looks := true }, kinds := [], alts := [], laidByText := true, laidKinds := [.data, .pinned], laidTests := true, laidLooks := .later }
def TvecManyCardSaid : Prop := Claim7.holds Tryd.pinned (.plain (OpenSpec.ofChange tvecManySpec)) tvecManyCard

/-- THE TIED CARD OF 'spinneylaw13.TvecNil'. -/
def tvecNilCard : Claim7 := { stood := { row := tvecNilRow, standIns := [], harness := (true, "1791eb8ff585d05e5ff2866c106e2972fa334e47aabfc1a28d372e97dc38a31e"), looks := true }, kinds := [], alts := [], laidByText := true, laidKinds := [.data, .pinned], laidTests := true, laidLooks := .later }
def TvecNilCardSaid : Prop := Claim7.holds Tryd.pinned (.plain (OpenSpec.ofChange tvecNilSpec)) tvecNilCard

/-- THE SECOND FORM's CARD OF 'spinneylaw11.RrbOf'. -/
def rrbOfUptoCard : Claim7 := { stood := { row := rrbOfUptoRow, standIns := [], harness := (true, "1791eb8ff585d05e5ff2866c106e2972fa334e47aabfc1a28d372e97dc38a31e"), looks := true }, kinds := [], alts := [], laidByText := true, laidKinds := [.data, .pinned], laidTests := true, laidLooks := .later }
def RrbOfUptoCardSaid : Prop := Claim7.holds Tryd.pinned (.plain (OpenSpec.upto rrbOfSpec)) rrbOfUptoCard

/-- THE SECOND FORM's CARD OF 'spinneylaw11.RrbHeight'. -/
def rrbHeightUptoCard : Claim7 := { stood := { row := rrbHeightUptoRow, standIns := [], harness := (true, "1791eb8ff585d05e5ff2866c106e2972fa334e47aabfc1a28d372e97dc38a31e"), looks := true }, kinds := [], alts := [], laidByText := true, laidKinds := [.data, .pinned], laidTests := true, laidLooks := .later }
def RrbHeightUptoCardSaid : Prop := Claim7.holds Tryd.pinned (.plain (OpenSpec.upto rrbHeightSpec)) rrbHeightUptoCard

/-- THE SECOND FORM's CARD OF 'spinneylaw11.RrbSteps'. -/
def rrbStepsUptoCard : Claim7 := { stood := { row := rrbStepsUptoRow, standIns := [], harness := (true, "1791eb8ff585d05e5ff2866c106e2972fa334e47aabfc1a28d372e97dc38a31e"), looks := true }, kinds := [], alts := [], laidByText := true, laidKinds := [.data, .pinned], laidTests := true, laidLooks := .later }
def RrbStepsUptoCardSaid : Prop := Claim7.holds Tryd.pinned (.plain (OpenSpec.upto rrbStepsSpec)) rrbStepsUptoCard

/-- THE SECOND FORM's CARD OF 'spinneylaw11.RrbValue'. -/
def rrbValueUptoCard : Claim7 := { stood := { row := rrbValueUptoRow, standIns := [], harness := (true, "1791eb8ff585d05e5ff2866c106e2972fa334e47aabfc1a28d372e97dc38a31e"), looks := true }, kinds := [], alts := [], laidByText := true, laidKinds := [.data, .pinned], laidTests := true, laidLooks := .later }
def RrbValueUptoCardSaid : Prop := Claim7.holds Tryd.pinned (.plain (OpenSpec.upto rrbValueSpec)) rrbValueUptoCard

/-- THE SECOND FORM's CARD OF 'spinneylaw13.TvecSteps'. -/
def tvecStepsUptoCard : Claim7 := { stood := { row := tvecStepsUptoRow, standIns := [], harness := (true, "1791eb8ff585d05e5ff2866c106e2972fa334e47aabfc1a28d372e97dc38a31e"), looks := true }, kinds := [], alts := [], laidByText := true, laidKinds := [.data, .pinned], laidTests := true, laidLooks := .later }
def TvecStepsUptoCardSaid : Prop := Claim7.holds Tryd.pinned (.plain (OpenSpec.upto tvecStepsSpec)) tvecStepsUptoCard

/-- THE SECOND FORM's CARD OF 'spinneylaw13.TvecSealed'. -/
def tvecSealedUptoCard : Claim7 := { stood := { row := tvecSealedUptoRow, standIns := [], harness := (true, "1791eb8ff585d05e5ff2866c106e2972fa334e47aabfc1a28d372e97dc38a31e"), looks := true }, kinds := [], alts := [], laidByText := true, laidKinds := [.data, .pinned], laidTests := true, laidLooks := .later }
def TvecSealedUptoCardSaid : Prop := Claim7.holds Tryd.pinned (.plain (OpenSpec.upto tvecSealedSpec)) tvecSealedUptoCard

/-- THE SECOND FORM's CARD OF 'spinneylaw13.TvecMany'. -/
def tvecManyUptoCard : Claim7 := { stood := { row := tvecManyUptoRow, standIns := [], harness := (true, "1791eb8ff585d05e5ff2866c106e2972fa334e47aabfc1a28d372e97dc38a31e"), looks := true }, kinds := [], alts := [], laidByText := true, laidKinds := [.data, .pinned], laidTests := true, laidLooks := .later }
def TvecManyUptoCardSaid : Prop := Claim7.holds Tryd.pinned (.plain (OpenSpec.upto tvecManySpec)) tvecManyUptoCard

/-- THE SECOND FORM's CARD OF 'spinneylaw13.TvecNil'. -/
def tvecNilUptoCard : Claim7 := { stood := { row := tvecNilUptoRow, standIns := [], harness := (true, "1791eb8ff585d05e5ff2866c106e2972fa334e47aabfc1a28d372e97dc38a31e"), looks := true }, kinds := [], alts := [], laidByText := true, laidKinds := [.data, .pinned], laidTests := true, laidLooks := .later }
def TvecNilUptoCardSaid : Prop := Claim7.holds Tryd.pinned (.plain (OpenSpec.upto tvecNilSpec)) tvecNilUptoCard
end Rows
end Go.Proofs.YtaeldfnihocljaaDoor
