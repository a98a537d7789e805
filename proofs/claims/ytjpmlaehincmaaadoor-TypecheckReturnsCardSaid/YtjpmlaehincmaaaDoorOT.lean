import Derived.Test.YtjpmlaehincmaaaDoorO
import Derived.Test.YtjpmlaehincmaaaDoorT5
import Derived.WideShapes
/-! Statements among the arguments, opened. -/
namespace Go.Proofs.YtjpmlaehincmaaaDoor.Open
open Go.RowKit Go.Deep Go.WideShapes Go.Proofs.YtjpmlaehincmaaaDoorW.PrintWords Go.Proofs.YtjpmlaehincmaaaDoor.Cx
section
variable {H : Type} {enc : TypeId × Value → H} {W : World} {base : Nat} {sp : Nat → Bool} {held : Bool}
theorem cells2 : Tryd.prog.cellsOf 2 = 1 := by kernel_rfl
theorem cells3 : Tryd.prog.cellsOf 3 = 1 := by kernel_rfl
theorem cells9 : Tryd.prog.cellsOf 9 = 1 := by kernel_rfl
theorem cells42 : Tryd.prog.cellsOf 42 = 1 := by kernel_rfl
theorem cells22 : Tryd.prog.cellsOf 22 = 1 := by kernel_rfl
theorem cells47 : Tryd.prog.cellsOf 47 = 5 := by kernel_rfl
theorem cells44 : Tryd.prog.cellsOf 44 = 6 := by kernel_rfl
theorem op47 : ∀ fuel : Nat, Opens enc Tryd.prog W base sp held fuel 47 k47 (fun _ => True) := by
  intro fuel
  induction fuel using Nat.strongRecOn with
  | _ fuel ih =>
    intro cs x hx
    obtain ⟨xs, n, rfl, _, hl, hxs, hf⟩ := DataW.trod_struct Tryd.underlying47 hx
    have hl2 : cs.length = 5 := hl.trans cells47
    have s4 := seg_last (w := W) hxs hf 4 _ rfl (opens_slice (d := k47) Tryd.underlying42 (by rw [cells47]; rfl) 47 (fun m hm => ih m (by omega))) (by simp [hl2, cells42])
    have s3 := seg_next (w := W) hxs hf 3 _ rfl (opens_string Tryd.underlying9 n) (by simp [cells9]) s4
    have s2 := seg_next (w := W) hxs hf 2 _ rfl (opens_string Tryd.underlying9 n) (by simp [cells9]) s3
    have s1 := seg_next (w := W) hxs hf 1 _ rfl (opens_int Tryd.underlying2 n) (by simp [cells2]) s2
    have s0 := seg_next (w := W) hxs hf 0 _ rfl (opens_int Tryd.underlying3 n) (by simp [cells3]) s1
    obtain ⟨⟨a0, a1, a2, a3, a4⟩, h1, _⟩ := s0.whole
    obtain ⟨_, _, rfl, rfl, ⟨_, _, rfl, rfl, ⟨_, _, rfl, rfl, ⟨_, _, rfl, rfl, ⟨A4, c4, rfl, l4, g4⟩⟩⟩⟩⟩ := h1
    exact ⟨⟨a0, a1, a2, a3, a4⟩, k47_mk W ⟨a0, a1, a2, a3, a4⟩ l4 g4, trivial⟩
theorem op44 : ∀ fuel : Nat, Opens enc Tryd.prog W base sp held fuel 44 k44 Good44 := by
  intro fuel
  induction fuel using Nat.strongRecOn with
  | _ fuel ih =>
    intro cs x hx
    obtain ⟨xs, n, rfl, _, hl, hxs, hf⟩ := DataW.trod_struct Tryd.underlying44 hx
    have hl2 : cs.length = 6 := hl.trans cells44
    have s5 := seg_last (w := W) hxs hf 5 _ rfl (opens_slice (d := k44) Tryd.underlying22 (by rw [cells44]; rfl) 44 (fun m hm => ih m (by omega))) (by simp [hl2, cells22])
    have s4 := seg_next (w := W) hxs hf 4 _ rfl (opens_slice (d := k44) Tryd.underlying22 (by rw [cells44]; rfl) 44 (fun m hm => ih m (by omega))) (by simp [cells22]) s5
    have s3 := seg_next (w := W) hxs hf 3 _ rfl (opens_slice (d := k47) Tryd.underlying42 (by rw [cells47]; rfl) 47 (fun m _ => op47 m)) (by simp [cells42]) s4
    have s2 := seg_next (w := W) hxs hf 2 _ rfl (opens_string Tryd.underlying9 n) (by simp [cells9]) s3
    have s1 := seg_next (w := W) hxs hf 1 _ rfl (opens_string Tryd.underlying9 n) (by simp [cells9]) s2
    have s0 := seg_next (w := W) hxs hf 0 _ rfl (opens_int Tryd.underlying3 n) (by simp [cells3]) s1
    obtain ⟨⟨a0, a1, a2, a3, a4, a5⟩, h1, _, _, _, _, ⟨m4, n4⟩, ⟨m5, n5⟩⟩ := s0.whole
    obtain ⟨_, _, rfl, rfl, ⟨_, _, rfl, rfl, ⟨_, _, rfl, rfl, ⟨_, _, rfl, ⟨A3, c3, rfl, l3, g3⟩, ⟨_, _, rfl, ⟨A4, c4, rfl, l4, g4⟩, ⟨A5, c5, rfl, l5, g5⟩⟩⟩⟩⟩⟩ := h1
    exact ⟨⟨a0, a1, a2, a3, a4, a5⟩, k44_mk W ⟨a0, a1, a2, a3, a4, a5⟩ l3 g3 l4 g4 l5 g5, .mk _ m4 n4 m5 n5⟩
theorem stmts_open {A : Option Addr} {len cap : Nat} {d : DataW H} {ps : List MemPlace} (h : DataW.Trod enc Tryd.prog W base sp held 22 (.slice A len cap) d ps) :
    ∃ l : List S44, len = l.length ∧ l.length ≤ cap ∧ k44.C W A l.length l ∧ l.length ≤ maxLen ∧ ∀ x, x ∈ l → Good44 x := by
  obtain ⟨fuel, hf⟩ := h
  obtain ⟨A', c', l, hcs, hc, hC, hm, hg⟩ := opens_slice_of (d := k44) (G := Good44) Tryd.underlying22 (by rw [cells44]; rfl) (fun n _ => op44 n) _ _ hf
  simp [Value.cells] at hcs
  obtain ⟨rfl, rfl, rfl⟩ := hcs
  exact ⟨l, rfl, hc, hC, hm, hg⟩
end
end Go.Proofs.YtjpmlaehincmaaaDoor.Open
