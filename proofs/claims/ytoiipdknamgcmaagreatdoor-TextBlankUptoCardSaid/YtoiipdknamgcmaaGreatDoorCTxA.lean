/- What the document says of a text in quotes. -/
import Derived.Test.YtoiipdknamgcmaaGreatDoorCTxValH
import Derived.Test.YtoiipdknamgcmaaGreatDoorCTxValC
import Derived.Test.YtoiipdknamgcmaaGreatDoorCValF

set_option linter.unusedVariables false
set_option linter.unusedSimpArgs false
namespace Go.Proofs.YtoiipdknamgcmaaGreatDoor
open Go.RowKit
attribute [local go_sem] lt_succ_of

end Go.Proofs.YtoiipdknamgcmaaGreatDoor
