import Derived.Test.YtjpmlaehincmaaaDoorAw0
/-! The run of awake over rows: it returns true. -/
namespace Go.Proofs.YtjpmlaehincmaaaDoor.Aw
open Go Go.Proofs.YtjpmlaehincmaaaDoor.Run
set_option maxRecDepth 1000000
theorem runs : good (acallF Tryd.prog fineSet 1000 200 7 #[] (startAH laidRows)) = true := by kernel_rfl
end Go.Proofs.YtjpmlaehincmaaaDoor.Aw
