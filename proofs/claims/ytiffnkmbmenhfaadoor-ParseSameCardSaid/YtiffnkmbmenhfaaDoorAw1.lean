import Derived.Test.YtiffnkmbmenhfaaDoorAw0
/-! Each function that awake reaches keeps to the rules of the run over rows. -/
namespace Go.Proofs.YtiffnkmbmenhfaaDoor.Aw
open Go Go.Proofs.YtiffnkmbmenhfaaDoor.Run
set_option maxRecDepth 1000000
theorem fine_all : fineAll Tryd.prog fineSet 130 = true := by kernel_rfl
theorem fine : Fine Tryd.prog fineSet := fineAll_ok fine_all (by decide)
end Go.Proofs.YtiffnkmbmenhfaaDoor.Aw
