import Derived.Test.YtiffnkmbmenhfaaDoorM8
import Derived.Test.YtiffnkmbmenhfaaDoorRows
/-! The closed call awake: which functions it may reach, and the listed variables as rows. -/
namespace Go.Proofs.YtiffnkmbmenhfaaDoor.Aw
open Go Go.Proofs.YtiffnkmbmenhfaaDoor.Run
def fineSet : Nat := 1361100910051031912301541511997262135292
def kwBytes : List (List UInt8) := [[99, 108, 97, 115, 115], [101, 120, 116, 101, 110, 100, 115], [118, 97, 114], [100, 101, 102], [115, 116, 97, 116, 105, 99], [105, 102], [101, 108, 115, 101], [119, 104, 105, 108, 101], [116, 114, 121], [99, 97, 116, 99, 104], [116, 104, 114, 111, 119], [114, 101, 116, 117, 114, 110], [110, 101, 119], [110, 117, 108, 108], [116, 104, 105, 115], [105, 110, 112, 117, 116], [105, 110, 116]]
def mkBytes : List (List UInt8) := [[58, 58], [61, 61], [58], [123], [125], [40], [41], [59], [44], [46], [61], [60], [43], [45], [42]]
def strs (l : List (List UInt8)) : List Value := l.map fun b => .string ⟨b.toArray⟩
def laidRows : List (List Value) := [strs mkBytes, strs kwBytes, []]
def good (r : Option (AEnd × AH)) : Bool :=
  match r with
  | some (.returned (.bool b), _) => b
  | _ => false
theorem good_some {r : Option (AEnd × AH)} (h : good r = true) : ∃ h1, r = some (.returned (.bool true), h1) := by
  unfold good at h
  split at h
  · rename_i b h1
    subst h
    exact ⟨h1, rfl⟩
  · cases h
end Go.Proofs.YtiffnkmbmenhfaaDoor.Aw
