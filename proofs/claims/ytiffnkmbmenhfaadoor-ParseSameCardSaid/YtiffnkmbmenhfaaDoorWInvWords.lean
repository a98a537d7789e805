import Derived.Test.YtiffnkmbmenhfaaDoorWInv
import Derived.Test.YtiffnkmbmenhfaaDoorWFootNe
namespace Go.Proofs.YtiffnkmbmenhfaaDoorW.PrintWords
open Go.RowKit
end Go.Proofs.YtiffnkmbmenhfaaDoorW.PrintWords
namespace Go.Proofs.YtiffnkmbmenhfaaDoorW.PrintLast
section
variable {ops : Array Oper} {a : Act} {o og : Oper} {g : Nat} {t : Tmp} {u : Bool}
end
end Go.Proofs.YtiffnkmbmenhfaaDoorW.PrintLast
