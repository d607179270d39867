/- Closed facts of the card of QuickSure. No condition. -/
import Derived.Test.YtihdnfhclocndaaGreatDoorQs4
namespace Go.Proofs.YtihdnfhclocndaaGreatDoor
open Go.RowKit Go.ChangeShapes Go.WideShapes Go.ChangeAt

theorem quickSure_main : Tryz.pinned.checked.prog.mainIs = some (true, "fab9b3faab53cdedd7c793023da58017c9aba1eaf76bb1196f9ab5a491fcaad7".toList) := by kernel_rfl

end Go.Proofs.YtihdnfhclocndaaGreatDoor
