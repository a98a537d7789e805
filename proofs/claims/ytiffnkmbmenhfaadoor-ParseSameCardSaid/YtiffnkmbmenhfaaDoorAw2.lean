import Derived.Test.YtiffnkmbmenhfaaDoorAw0
/-! The run of awake over rows: it returns true. -/
namespace Go.Proofs.YtiffnkmbmenhfaaDoor.Aw
open Go Go.Proofs.YtiffnkmbmenhfaaDoor.Run
set_option maxRecDepth 1000000
theorem runs : good (acallF Tryd.prog fineSet 1000 200 11 #[] (startAH laidRows)) = true := by kernel_rfl
end Go.Proofs.YtiffnkmbmenhfaaDoor.Aw
