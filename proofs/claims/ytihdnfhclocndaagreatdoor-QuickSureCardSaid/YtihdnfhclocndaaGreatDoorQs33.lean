/- Closed facts of the card of QuickSure. No condition. -/
import Derived.Test.YtihdnfhclocndaaGreatDoorQs4
namespace Go.Proofs.YtihdnfhclocndaaGreatDoor
open Go.RowKit Go.ChangeShapes Go.WideShapes Go.ChangeAt

theorem quickSure_text : Rows.quickSureRow.wfByText (OpenSpec.ofChange Rows.quickSureSpec) = true := by kernel_rfl

end Go.Proofs.YtihdnfhclocndaaGreatDoor
