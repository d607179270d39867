/- The row of QuickSure. No condition. -/
import Derived.Test.YtihdnfhclocndaaGreatDoorQs29
import Derived.Test.YtihdnfhclocndaaGreatDoorQs30
namespace Go.Proofs.YtihdnfhclocndaaGreatDoor
open Go.RowKit Go.ChangeShapes Go.WideShapes Go.ChangeAt

theorem quickSure_said : Rows.QuickSureSaid :=
  OpenClaim.holds_of_wide 3 Tryz.f3 rfl rfl rfl rfl rfl rfl rfl ⟨rfl, rfl, rfl, rfl, rfl⟩ rfl rfl rfl rfl rfl (by kernel_rfl) Tryz.func3 quickSure_facts
    (of_decide_eq_true (by kernel_rfl)) (by unfold Func.isWrapper; first | (rw [if_pos (by decide +kernel)]; kernel_rfl) | (rw [if_neg (by decide +kernel)]; exact ⟨rfl, rfl⟩))
    (fun os started H enc _ => quickSure_lifted os started H enc)

end Go.Proofs.YtihdnfhclocndaaGreatDoor
