import Derived.Test.YtmocdgcjglmmjaaGreatDoorAw0
/-! Each function that awake reaches keeps to the rules of the run over rows. -/
namespace Go.Proofs.YtmocdgcjglmmjaaGreatDoor.Aw
open Go Go.Proofs.YtmocdgcjglmmjaaGreatDoor.Run
set_option maxRecDepth 1000000
theorem fine_all : fineAll Tryz.prog fineSet 251 = true := by kernel_rfl
theorem fine : Fine Tryz.prog fineSet := fineAll_ok fine_all (by decide)
end Go.Proofs.YtmocdgcjglmmjaaGreatDoor.Aw
