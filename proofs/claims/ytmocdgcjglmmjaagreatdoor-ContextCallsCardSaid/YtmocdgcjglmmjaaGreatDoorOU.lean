import Derived.Test.YtmocdgcjglmmjaaGreatDoorO
import Derived.Test.YtmocdgcjglmmjaaGreatDoorV0
import Derived.WideShapes
/-! A unit among the arguments, opened. -/
namespace Go.Proofs.YtmocdgcjglmmjaaGreatDoor.Open
open Go.RowKit Go.Deep Go.WideShapes Go.Proofs.YtmocdgcjglmmjaaGreatDoorW.PrintWords Go.Proofs.YtmocdgcjglmmjaaGreatDoor.Cx
section
variable {H : Type} {enc : TypeId × Value → H} {W : World} {base : Nat} {sp : Nat → Bool} {held : Bool}
theorem cells2 : Tryz.prog.cellsOf 2 = 1 := by kernel_rfl
theorem cells3 : Tryz.prog.cellsOf 3 = 1 := by kernel_rfl
theorem cells4 : Tryz.prog.cellsOf 4 = 1 := by kernel_rfl
theorem cells9 : Tryz.prog.cellsOf 9 = 1 := by kernel_rfl
theorem cells22 : Tryz.prog.cellsOf 22 = 1 := by kernel_rfl
theorem cells24 : Tryz.prog.cellsOf 24 = 1 := by kernel_rfl
theorem cells25 : Tryz.prog.cellsOf 25 = 1 := by kernel_rfl
theorem cells30 : Tryz.prog.cellsOf 30 = 1 := by kernel_rfl
theorem cells70 : Tryz.prog.cellsOf 70 = 1 := by kernel_rfl
theorem cells71 : Tryz.prog.cellsOf 71 = 1 := by kernel_rfl
theorem cells74 : Tryz.prog.cellsOf 74 = 1 := by kernel_rfl
theorem cells77 : Tryz.prog.cellsOf 77 = 1 := by kernel_rfl
theorem cells128 : Tryz.prog.cellsOf 128 = 2 := by kernel_rfl
theorem cells79 : Tryz.prog.cellsOf 79 = 4 := by kernel_rfl
theorem cells76 : Tryz.prog.cellsOf 76 = 4 := by kernel_rfl
theorem cells81 : Tryz.prog.cellsOf 81 = 10 := by kernel_rfl
theorem cells73 : Tryz.prog.cellsOf 73 = 7 := by kernel_rfl
theorem cells27 : Tryz.prog.cellsOf 27 = 3 := by kernel_rfl
theorem op30 (fuel : Nat) : Opens enc Tryz.prog W base sp held fuel 30 (Kd.slice 3 (Kd.int .i64)) (fun _ => True) := (opens_slice (d := (Kd.int .i64)) Tryz.underlying30 (by rw [cells3]; rfl) 3 (fun n _ => opens_int Tryz.underlying3 n)).imp (fun _ _ => trivial)
theorem op77 (fuel : Nat) : Opens enc Tryz.prog W base sp held fuel 77 (Kd.slice 9 Kd.string) (fun _ => True) := (opens_slice (d := Kd.string) Tryz.underlying77 (by rw [cells9]; rfl) 9 (fun n _ => opens_string Tryz.underlying9 n)).imp (fun _ _ => trivial)
theorem op128 (fuel : Nat) : Opens enc Tryz.prog W base sp held fuel 128 k128 (fun _ => True) := by
  intro cs x hx
  obtain ⟨xs, n, rfl, _, hl, hxs, hf⟩ := DataW.trod_struct Tryz.underlying128 hx
  have hl2 : cs.length = 2 := hl.trans cells128
  have s1 := seg_last (w := W) hxs hf 1 _ rfl (opens_string Tryz.underlying9 n) (by simp [hl2, cells9])
  have s0 := seg_next (w := W) hxs hf 0 _ rfl (opens_string Tryz.underlying9 n) (by simp [cells9]) s1
  obtain ⟨⟨a0, a1⟩, h1, _⟩ := s0.whole
  exact ⟨⟨a0, a1⟩, h1, trivial⟩
theorem op70 (fuel : Nat) : Opens enc Tryz.prog W base sp held fuel 70 (Kd.slice 128 k128) (fun _ => True) := (opens_slice (d := k128) Tryz.underlying70 (by rw [cells128]; rfl) 128 (fun n _ => op128 n)).imp (fun _ _ => trivial)
theorem op79 (fuel : Nat) : Opens enc Tryz.prog W base sp held fuel 79 k79 (fun _ => True) := by
  intro cs x hx
  obtain ⟨xs, n, rfl, _, hl, hxs, hf⟩ := DataW.trod_struct Tryz.underlying79 hx
  have hl2 : cs.length = 4 := hl.trans cells79
  have s3 := seg_last (w := W) hxs hf 3 _ rfl (opens_string Tryz.underlying9 n) (by simp [hl2, cells9])
  have s2 := seg_next (w := W) hxs hf 2 _ rfl (op77 n) (by simp [cells77]) s3
  have s1 := seg_next (w := W) hxs hf 1 _ rfl (opens_bool Tryz.underlying4 n) (by simp [cells4]) s2
  have s0 := seg_next (w := W) hxs hf 0 _ rfl (opens_string Tryz.underlying9 n) (by simp [cells9]) s1
  obtain ⟨⟨a0, a1, a2, a3⟩, h1, _⟩ := s0.whole
  exact ⟨⟨a0, a1, a2, a3⟩, h1, trivial⟩
theorem op74 (fuel : Nat) : Opens enc Tryz.prog W base sp held fuel 74 (Kd.slice 79 k79) (fun _ => True) := (opens_slice (d := k79) Tryz.underlying74 (by rw [cells79]; rfl) 79 (fun n _ => op79 n)).imp (fun _ _ => trivial)
theorem op76 (fuel : Nat) : Opens enc Tryz.prog W base sp held fuel 76 k76 (fun _ => True) := by
  intro cs x hx
  obtain ⟨xs, n, rfl, _, hl, hxs, hf⟩ := DataW.trod_struct Tryz.underlying76 hx
  have hl2 : cs.length = 4 := hl.trans cells76
  have s3 := seg_last (w := W) hxs hf 3 _ rfl (op74 n) (by simp [hl2, cells74])
  have s2 := seg_next (w := W) hxs hf 2 _ rfl (op70 n) (by simp [cells70]) s3
  have s1 := seg_next (w := W) hxs hf 1 _ rfl (opens_string Tryz.underlying9 n) (by simp [cells9]) s2
  have s0 := seg_next (w := W) hxs hf 0 _ rfl (opens_string Tryz.underlying9 n) (by simp [cells9]) s1
  obtain ⟨⟨a0, a1, a2, a3⟩, h1, _⟩ := s0.whole
  exact ⟨⟨a0, a1, a2, a3⟩, h1, trivial⟩
theorem op22 (fuel : Nat) : Opens enc Tryz.prog W base sp held fuel 22 (Kd.slice 76 k76) (fun _ => True) := (opens_slice (d := k76) Tryz.underlying22 (by rw [cells76]; rfl) 76 (fun n _ => op76 n)).imp (fun _ _ => trivial)
theorem op24 (fuel : Nat) : Opens enc Tryz.prog W base sp held fuel 24 (Kd.slice 76 k76) (fun _ => True) := by
  intro cs x hx
  obtain ⟨xs, n, rfl, _, hl, hxs, hf⟩ := DataW.trod_struct Tryz.underlying24 hx
  have hl2 : cs.length = 1 := hl.trans cells24
  have s0 := seg_last (w := W) hxs hf 0 _ rfl (op22 n) (by simp [hl2, cells22])
  obtain ⟨a0, h1, _⟩ := s0.whole
  exact ⟨a0, h1, trivial⟩
theorem op81 (fuel : Nat) : Opens enc Tryz.prog W base sp held fuel 81 k81 (fun _ => True) := by
  intro cs x hx
  obtain ⟨xs, n, rfl, _, hl, hxs, hf⟩ := DataW.trod_struct Tryz.underlying81 hx
  have hl2 : cs.length = 10 := hl.trans cells81
  have s9 := seg_last (w := W) hxs hf 9 _ rfl (opens_int Tryz.underlying3 n) (by simp [hl2, cells3])
  have s8 := seg_next (w := W) hxs hf 8 _ rfl (opens_int Tryz.underlying3 n) (by simp [cells3]) s9
  have s7 := seg_next (w := W) hxs hf 7 _ rfl (op30 n) (by simp [cells30]) s8
  have s6 := seg_next (w := W) hxs hf 6 _ rfl (opens_string Tryz.underlying9 n) (by simp [cells9]) s7
  have s5 := seg_next (w := W) hxs hf 5 _ rfl (opens_string Tryz.underlying9 n) (by simp [cells9]) s6
  have s4 := seg_next (w := W) hxs hf 4 _ rfl (opens_int Tryz.underlying2 n) (by simp [cells2]) s5
  have s3 := seg_next (w := W) hxs hf 3 _ rfl (opens_int Tryz.underlying3 n) (by simp [cells3]) s4
  have s2 := seg_next (w := W) hxs hf 2 _ rfl (opens_int Tryz.underlying3 n) (by simp [cells3]) s3
  have s1 := seg_next (w := W) hxs hf 1 _ rfl (opens_int Tryz.underlying3 n) (by simp [cells3]) s2
  have s0 := seg_next (w := W) hxs hf 0 _ rfl (opens_int Tryz.underlying3 n) (by simp [cells3]) s1
  obtain ⟨⟨a0, a1, a2, a3, a4, a5, a6, a7, a8, a9⟩, h1, _⟩ := s0.whole
  exact ⟨⟨a0, a1, a2, a3, a4, a5, a6, a7, a8, a9⟩, h1, trivial⟩
theorem op71 (fuel : Nat) : Opens enc Tryz.prog W base sp held fuel 71 (Kd.slice 81 k81) (fun _ => True) := (opens_slice (d := k81) Tryz.underlying71 (by rw [cells81]; rfl) 81 (fun n _ => op81 n)).imp (fun _ _ => trivial)
theorem op73 (fuel : Nat) : Opens enc Tryz.prog W base sp held fuel 73 k73 (fun _ => True) := by
  intro cs x hx
  obtain ⟨xs, n, rfl, _, hl, hxs, hf⟩ := DataW.trod_struct Tryz.underlying73 hx
  have hl2 : cs.length = 7 := hl.trans cells73
  have s6 := seg_last (w := W) hxs hf 6 _ rfl (op71 n) (by simp [hl2, cells71])
  have s5 := seg_next (w := W) hxs hf 5 _ rfl (opens_string Tryz.underlying9 n) (by simp [cells9]) s6
  have s4 := seg_next (w := W) hxs hf 4 _ rfl (op70 n) (by simp [cells70]) s5
  have s3 := seg_next (w := W) hxs hf 3 _ rfl (opens_int Tryz.underlying3 n) (by simp [cells3]) s4
  have s2 := seg_next (w := W) hxs hf 2 _ rfl (opens_bool Tryz.underlying4 n) (by simp [cells4]) s3
  have s1 := seg_next (w := W) hxs hf 1 _ rfl (opens_string Tryz.underlying9 n) (by simp [cells9]) s2
  have s0 := seg_next (w := W) hxs hf 0 _ rfl (opens_string Tryz.underlying9 n) (by simp [cells9]) s1
  obtain ⟨⟨a0, a1, a2, a3, a4, a5, a6⟩, h1, _⟩ := s0.whole
  exact ⟨⟨a0, a1, a2, a3, a4, a5, a6⟩, h1, trivial⟩
theorem op25 (fuel : Nat) : Opens enc Tryz.prog W base sp held fuel 25 (Kd.slice 73 k73) (fun _ => True) := (opens_slice (d := k73) Tryz.underlying25 (by rw [cells73]; rfl) 73 (fun n _ => op73 n)).imp (fun _ _ => trivial)
theorem op27 (fuel : Nat) : Opens enc Tryz.prog W base sp held fuel 27 (Kd.pair (Kd.slice 76 k76) (Kd.pair (Kd.slice 73 k73) (Kd.int .i64))) (fun _ => True) := by
  intro cs x hx
  obtain ⟨xs, n, rfl, _, hl, hxs, hf⟩ := DataW.trod_struct Tryz.underlying27 hx
  have hl2 : cs.length = 3 := hl.trans cells27
  have s2 := seg_last (w := W) hxs hf 2 _ rfl (opens_int Tryz.underlying3 n) (by simp [hl2, cells3])
  have s1 := seg_next (w := W) hxs hf 1 _ rfl (op25 n) (by simp [cells25]) s2
  have s0 := seg_next (w := W) hxs hf 0 _ rfl (op24 n) (by simp [cells24]) s1
  obtain ⟨⟨a0, a1, a2⟩, h1, _⟩ := s0.whole
  exact ⟨⟨a0, a1, a2⟩, h1, trivial⟩
set_option maxRecDepth 100000 in
theorem unit_open {v : Value} {d : DataW H} {ps : List MemPlace} {r : Reach} {b : Nat} (hv : Value.okWide Tryz.prog W r b 27 v) (h : DataW.Trod enc Tryz.prog W base sp held 27 v d ps) :
    ∃ A0 c0 A1 c1 a2, ∃ l0 : List S76, ∃ l1 : List S73, v = .agg #[.slice A0 l0.length c0, .slice A1 l1.length c1, .int .i64 a2] ∧ l0.length ≤ c0 ∧ k76.C W A0 l0.length l0 ∧ l1.length ≤ c1 ∧ k73.C W A1 l1.length l1 := by
  obtain ⟨cs, rfl, _⟩ := okWide_struct Tryz.underlying27 hv
  obtain ⟨fuel, hf⟩ := h
  obtain ⟨⟨l0, l1, a2⟩, hK, _⟩ := op27 fuel _ _ hf
  obtain ⟨x1, x2, e, ⟨A0, c0, rfl, h1, h2⟩, ⟨x3, x4, rfl, ⟨A1, c1, rfl, h3, h4⟩, rfl⟩⟩ := hK
  refine ⟨A0, c0, A1, c1, a2, l0, l1, ?_, h1, h2, h3, h4⟩
  congr 1
  apply Array.ext'
  simpa [Value.cells] using e
end
end Go.Proofs.YtmocdgcjglmmjaaGreatDoor.Open
