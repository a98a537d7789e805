import Derived.SizedLaws
import Derived.ChangeSlices
namespace Go.Proofs.YtiffnkmbmenhfaaDoorW.PrintWords
open Go.ChangeShapes Go.WideShapes
end Go.Proofs.YtiffnkmbmenhfaaDoorW.PrintWords
