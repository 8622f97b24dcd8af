/-
  DERIVED. GIVEN WITH THE SEED: THE CARDS: each row of YtmnblgaefdahhaaGreatDoorRows.lean that lists a variable, with what it lists TIED to the program's text (the seventh form; the later family's looks); each row that meets fmt, with fmt's text TOLD by the authors' own Lean function (tested against real Go, not proved from fmt's source: count such statements apart). THE CARD IS WHAT COUNTS. Prove the row's statement (the work); the ties are given (YtmnblgaefdahhaaGreatDoorTie.lean); close each card by the builder's one call (the guide's Derived/Test/ToyasCard.lean, 'card_holds'). Laid BY PROGRAM, IN A SANDBOX (cutbox-door.mjs). By AI agents, Wed Nov 11 2026. No macro, syntax, notation, axiom, sorry.
-/
import Derived.Test.YtmnblgaefdahhaaGreatDoorRows
import GoSem.ClaimSeven
namespace Go.Proofs.YtmnblgaefdahhaaGreatDoor
namespace Rows

/-- THE TIED CARD OF 'spinneytop.TopQueues'. -/
def topQueuesCard : Claim7 := { stood := { row := topQueuesRow, standIns := [], harness := (true, "23d641eac8871f0bb04e27054e6bc1a61da4b8b4b503a79dff6ebcaf5c5f93f4"), looks := false }, kinds := [], alts := [], laidByText := true, laidKinds := [.data, .pinned], laidTests := true, laidLooks := .later }
def TopQueuesCardSaid : Prop := Claim7.holds Tryz.pinned (.plain (OpenSpec.ofChange topQueuesSpec)) topQueuesCard

/-- THE SECOND FORM's CARD OF 'spinneytop.TopQueues'. -/
def topQueuesUptoCard : Claim7 := { stood := { row := topQueuesUptoRow, standIns := [], harness := (true, "23d641eac8871f0bb04e27054e6bc1a61da4b8b4b503a79dff6ebcaf5c5f93f4"), looks := false }, kinds := [], alts := [], laidByText := true, laidKinds := [.data, .pinned], laidTests := true, laidLooks := .later }
def TopQueuesUptoCardSaid : Prop := Claim7.holds Tryz.pinned (.plain (OpenSpec.upto topQueuesSpec)) topQueuesUptoCard
end Rows
end Go.Proofs.YtmnblgaefdahhaaGreatDoor
