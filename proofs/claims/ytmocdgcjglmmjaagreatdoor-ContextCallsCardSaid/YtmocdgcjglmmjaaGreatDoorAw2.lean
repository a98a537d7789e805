import Derived.Test.YtmocdgcjglmmjaaGreatDoorAw0
/-! The run of awake over rows: it returns true. -/
namespace Go.Proofs.YtmocdgcjglmmjaaGreatDoor.Aw
open Go Go.Proofs.YtmocdgcjglmmjaaGreatDoor.Run
set_option maxRecDepth 1000000
theorem runs : good (acallF Tryz.prog fineSet 1000 200 10 #[] (startAH laidRows)) = true := by kernel_rfl
end Go.Proofs.YtmocdgcjglmmjaaGreatDoor.Aw
