/- Closed facts of the card of QuickSure. No condition. -/
import Derived.Test.YtihdnfhclocndaaGreatDoorQs4
namespace Go.Proofs.YtihdnfhclocndaaGreatDoor
open Go.RowKit Go.ChangeShapes Go.WideShapes Go.ChangeAt

theorem quickSure_goes : false = Rows.quickSureRow.goesBy Tryz.pinned.checked.prog := by kernel_rfl

end Go.Proofs.YtihdnfhclocndaaGreatDoor
