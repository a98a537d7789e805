import Derived.Test.YtjemjpakgpdonaaRows
import Derived.Test.YtjemjpakgpdonaaO
import Derived.WalkKit
import Derived.ProofKit
import Derived.OpenShut
import Derived.ShutString
import Derived.ChangeOld
import Derived.Below
import Derived.SizedLaws
/-! What the rows of this seat's statements share: arguments opened as lists. -/
namespace Go.Proofs.Ytjemjpakgpdonaa.Law
open Go.ChangeShapes Go.WideShapes Go.ChangeAt Go.RowKit Go.Proofs.YtjemjpakgpdonaaW.PrintWords Go.Proofs.Ytjemjpakgpdonaa.PAll Go.Proofs.Ytjemjpakgpdonaa.Open
set_option linter.unusedVariables false
theorem own : ownKnob Try.prog.godebug = none := by kernel_rfl
theorem laidOut : laidOutB Try.prog = true := by kernel_rfl
section
variable {H : Type} {enc : TypeId × Value → H} {W : World} {base : Nat} {sp : Nat → Bool} {held : Bool}
theorem ints_open {A : Option Addr} {len cap : Nat} {d : DataW H} {ps : List MemPlace} (h : DataW.Trod enc Try.prog W base sp held 24 (.slice A len cap) d ps) :
    ∃ l : List Int, len = l.length ∧ l.length ≤ cap ∧ (Kd.int .i64).C W A l.length l ∧ l.length ≤ maxLen ∧ ∀ n ∈ l, (Lit.int .i64 n).wf = true := by
  obtain ⟨fuel, hf⟩ := h
  obtain ⟨A', c', l, hcs, hc, hC, hm, hg⟩ := opens_slice_of (d := Kd.int .i64) (G := fun n => (Lit.int .i64 n).wf = true) Try.underlying24 (by kernel_rfl) (fun n _ => opens_int Try.underlying3 n) _ _ hf
  simp [Value.cells] at hcs
  obtain ⟨rfl, rfl, rfl⟩ := hcs
  exact ⟨l, rfl, hc, hC, hm, hg⟩
theorem edges_opens (fuel : Nat) : Opens enc Try.prog W base sp held fuel 35 k35 (fun _ => True) := by
  intro cs x hx
  obtain ⟨xs, n, rfl, _, hl, hxs, hf⟩ := DataW.trod_struct Try.underlying35 hx
  have hl2 : cs.length = 2 := hl
  have c3 : Try.prog.cellsOf 3 = 1 := by kernel_rfl
  have s1 := seg_last (w := W) hxs hf 1 _ rfl (opens_int Try.underlying3 n) (by rw [hl2]; show 1 + Try.prog.cellsOf 3 = 2; rw [c3])
  have s0 := seg_next (w := W) hxs hf 0 _ rfl (opens_int Try.underlying3 n) (by show 0 + Try.prog.cellsOf 3 = 1; rw [c3]) s1
  obtain ⟨⟨a, b⟩, h1, _⟩ := s0.whole
  exact ⟨⟨a, b⟩, h1, trivial⟩
theorem edges_open {A : Option Addr} {len cap : Nat} {d : DataW H} {ps : List MemPlace} (h : DataW.Trod enc Try.prog W base sp held 22 (.slice A len cap) d ps) :
    ∃ l : List S35, len = l.length ∧ l.length ≤ cap ∧ k35.C W A l.length l ∧ l.length ≤ maxLen := by
  obtain ⟨fuel, hf⟩ := h
  obtain ⟨A', c', l, hcs, hc, hC, hm, _⟩ := opens_slice_of (d := k35) (G := fun _ => True) Try.underlying22 (by kernel_rfl) (fun n _ => edges_opens n) _ _ hf
  simp [Value.cells] at hcs
  obtain ⟨rfl, rfl, rfl⟩ := hcs
  exact ⟨l, rfl, hc, hC, hm⟩
end
end Go.Proofs.Ytjemjpakgpdonaa.Law
