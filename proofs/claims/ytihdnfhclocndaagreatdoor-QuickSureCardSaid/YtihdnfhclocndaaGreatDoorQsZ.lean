/- QuickSure: for every input the law returns true, and its arguments read afterwards as before: the card. Its condition is that the listed variables start as the program text lays them. -/
import Derived.Test.YtihdnfhclocndaaGreatDoorQs31
import Derived.Test.YtihdnfhclocndaaGreatDoorQs32
import Derived.Test.YtihdnfhclocndaaGreatDoorQs33
import Derived.Test.YtihdnfhclocndaaGreatDoorQs34
import Derived.Test.YtihdnfhclocndaaGreatDoorQs35
namespace Go.Proofs.YtihdnfhclocndaaGreatDoor
open Go.RowKit Go.ChangeShapes Go.WideShapes Go.ChangeAt

/-- The card. -/
theorem quickSure_card : Rows.QuickSureCardSaid :=
  Claim7.holds_tied_plain_at .later [] _ _ _ _ quickSure_said (fun _ h => by cases h) quickSure_text (fun _ h => by cases h) quickSure_row_tie rfl ⟨rfl, rfl⟩ quickSure_main rfl quickSure_plain quickSure_goes
#print axioms quickSure_card

end Go.Proofs.YtihdnfhclocndaaGreatDoor
