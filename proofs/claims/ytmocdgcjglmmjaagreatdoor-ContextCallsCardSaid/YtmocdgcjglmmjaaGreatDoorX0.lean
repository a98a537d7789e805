import Derived.Test.YtmocdgcjglmmjaaGreatDoorProg
import Derived.Below
import Derived.Deep.Draws
import Derived.Deep.AppendLies
import Derived.Maps.AppendAt
import Derived.OwnWalk
import Derived.Laws.BytesArg
import Derived.Laws.MakeOwn
import Derived.Laws.OwnMore
import Derived.Deep.OwnRows
import Derived.Tactics
import Derived.Lib.ConvBytes
import Derived.Laws.Slices
import Derived.WalkKit
import Derived.KernelRfl
import Derived.RowKit3
import Derived.Deep.LoopGhost
import Derived.Deep.QuietTactic
import Derived.BigQuiet
import Derived.WideLaws
import Derived.Deep.DeepCutAuto
import Derived.Deep.CutBlock
import Derived.Deep.RegionHeld3
import Derived.Laws.Rows
import Derived.Lib.AppendStr
import Derived.ArgAppend
import Derived.Laws.IdiomCopy
import Derived.OrdersHeld
import Derived.Laws.BitsLemmas
import Derived.RowKit
import Derived.Test.YtmocdgcjglmmjaaGreatDoorWWords
import Derived.Test.YtmocdgcjglmmjaaGreatDoorWLast
import Derived.Test.YtmocdgcjglmmjaaGreatDoorWTab
import Derived.Test.YtmocdgcjglmmjaaGreatDoorWFour
import Derived.Test.YtmocdgcjglmmjaaGreatDoorWQPut
import Derived.Test.YtmocdgcjglmmjaaGreatDoorWApart
import Derived.Test.YtmocdgcjglmmjaaGreatDoorWArr
import Derived.Test.YtmocdgcjglmmjaaGreatDoorWZeros
import Derived.Test.YtmocdgcjglmmjaaGreatDoorWFoot
import Derived.Test.YtmocdgcjglmmjaaGreatDoorWKept
import Derived.Test.YtmocdgcjglmmjaaGreatDoorWShare
import Derived.Test.YtmocdgcjglmmjaaGreatDoorWN
import Derived.Test.YtmocdgcjglmmjaaGreatDoorWFootNe
import Derived.Test.YtmocdgcjglmmjaaGreatDoorWAt
import Derived.Test.YtmocdgcjglmmjaaGreatDoorWEqStruct
import Derived.Test.YtmocdgcjglmmjaaGreatDoorWRepsOne
import Derived.Test.YtmocdgcjglmmjaaGreatDoorWInv
import Derived.Test.YtmocdgcjglmmjaaGreatDoorWInvWords
import Derived.Test.YtmocdgcjglmmjaaGreatDoorWGuard
import Derived.Test.YtmocdgcjglmmjaaGreatDoorWNEv
import Derived.Test.YtmocdgcjglmmjaaGreatDoorWMore
/-! What the walks of the seat share. -/
namespace Go.Proofs.YtmocdgcjglmmjaaGreatDoor.Cx
open Go.RowKit Go.Proofs.YtmocdgcjglmmjaaGreatDoorW.PrintWords Go.Proofs.YtmocdgcjglmmjaaGreatDoorW.PrintLast Go.Proofs.YtmocdgcjglmmjaaGreatDoorW.PrintMore
attribute [local go_sem] max2_int min2_int max_two min_two max_three min_three max_four min_four   -- for this text's walks alone
set_option linter.unusedVariables false
set_option linter.unusedSimpArgs false

def errW : Option Int → Value
  | none => .nilIface
  | some c => .iface 0 (.int .i64 c)
theorem errW_none : errW none = .nilIface := rfl
theorem errW_some (c : Int) : errW (some c) = .iface 0 (.int .i64 c) := rfl
theorem info3 : (Tryz.prog.info? 3).map (fun i => (i.zero, i.size, i.bytes)) = some (some (.int .i64 0), 1, 8) := by kernel_rfl

end Go.Proofs.YtmocdgcjglmmjaaGreatDoor.Cx
