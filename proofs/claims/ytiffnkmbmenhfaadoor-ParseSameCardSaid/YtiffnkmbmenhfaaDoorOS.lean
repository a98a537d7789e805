import Derived.Test.YtiffnkmbmenhfaaDoorO
import Derived.Test.YtiffnkmbmenhfaaDoorL1
import Derived.WideShapes
/-! Sources among the arguments, opened. -/
namespace Go.Proofs.YtiffnkmbmenhfaaDoor.Open
open Go.RowKit Go.Deep Go.WideShapes Go.Proofs.YtiffnkmbmenhfaaDoorW.PrintWords Go.Proofs.YtiffnkmbmenhfaaDoor.Cx
section
variable {H : Type} {enc : TypeId × Value → H} {W : World} {base : Nat} {sp : Nat → Bool} {held : Bool}
theorem cells2 : Tryd.prog.cellsOf 2 = 1 := by kernel_rfl
theorem cells3 : Tryd.prog.cellsOf 3 = 1 := by kernel_rfl
theorem cells4 : Tryd.prog.cellsOf 4 = 1 := by kernel_rfl
theorem cells9 : Tryd.prog.cellsOf 9 = 1 := by kernel_rfl
theorem cells22 : Tryd.prog.cellsOf 22 = 1 := by kernel_rfl
theorem cells24 : Tryd.prog.cellsOf 24 = 1 := by kernel_rfl
theorem cells40 : Tryd.prog.cellsOf 40 = 1 := by kernel_rfl
theorem cells41 : Tryd.prog.cellsOf 41 = 1 := by kernel_rfl
theorem cells47 : Tryd.prog.cellsOf 47 = 1 := by kernel_rfl
theorem cells72 : Tryd.prog.cellsOf 72 = 1 := by kernel_rfl
theorem cells70 : Tryd.prog.cellsOf 70 = 2 := by kernel_rfl
theorem cells49 : Tryd.prog.cellsOf 49 = 5 := by kernel_rfl
theorem cells108 : Tryd.prog.cellsOf 108 = 6 := by kernel_rfl
theorem cells74 : Tryd.prog.cellsOf 74 = 5 := by kernel_rfl
theorem cells43 : Tryd.prog.cellsOf 43 = 4 := by kernel_rfl
theorem op70 : ∀ fuel : Nat, Opens enc Tryd.prog W base sp held fuel 70 k70 (fun _ => True) := by
  intro fuel
  induction fuel using Nat.strongRecOn with
  | _ fuel ih =>
    intro cs x hx
    obtain ⟨xs, n, rfl, _, hl, hxs, hf⟩ := DataW.trod_struct Tryd.underlying70 hx
    have hl2 : cs.length = 2 := hl.trans cells70
    have s1 := seg_last (w := W) hxs hf 1 _ rfl (opens_string Tryd.underlying9 n) (by simp [hl2, cells9])
    have s0 := seg_next (w := W) hxs hf 0 _ rfl (opens_string Tryd.underlying9 n) (by simp [cells9]) s1
    obtain ⟨⟨a0, a1⟩, h1, _⟩ := s0.whole
    exact ⟨⟨a0, a1⟩, h1, trivial⟩
theorem op49 : ∀ fuel : Nat, Opens enc Tryd.prog W base sp held fuel 49 k49 GoodE := by
  intro fuel
  induction fuel using Nat.strongRecOn with
  | _ fuel ih =>
    intro cs x hx
    obtain ⟨xs, n, rfl, _, hl, hxs, hf⟩ := DataW.trod_struct Tryd.underlying49 hx
    have hl2 : cs.length = 5 := hl.trans cells49
    have s4 := seg_last (w := W) hxs hf 4 _ rfl (opens_slice (d := k49) Tryd.underlying47 (by rw [cells49]; rfl) 49 (fun m hm => ih m (by omega))) (by simp [hl2, cells47])
    have s3 := seg_next (w := W) hxs hf 3 _ rfl (opens_string Tryd.underlying9 n) (by simp [cells9]) s4
    have s2 := seg_next (w := W) hxs hf 2 _ rfl (opens_string Tryd.underlying9 n) (by simp [cells9]) s3
    have s1 := seg_next (w := W) hxs hf 1 _ rfl (opens_int Tryd.underlying2 n) (by simp [cells2]) s2
    have s0 := seg_next (w := W) hxs hf 0 _ rfl (opens_int Tryd.underlying3 n) (by simp [cells3]) s1
    obtain ⟨⟨a0, a1, a2, a3, a4⟩, h1, _, _, _, _, m4, n4⟩ := s0.whole
    obtain ⟨_, _, rfl, rfl, ⟨_, _, rfl, rfl, ⟨_, _, rfl, rfl, ⟨_, _, rfl, rfl, ⟨A4, c4, rfl, l4, g4⟩⟩⟩⟩⟩ := h1
    exact ⟨⟨a0, a1, a2, a3, a4⟩, k49_mk W ⟨a0, a1, a2, a3, a4⟩ l4 g4, .mk _ m4 n4⟩
theorem op108 : ∀ fuel : Nat, Opens enc Tryd.prog W base sp held fuel 108 k108 GoodS := by
  intro fuel
  induction fuel using Nat.strongRecOn with
  | _ fuel ih =>
    intro cs x hx
    obtain ⟨xs, n, rfl, _, hl, hxs, hf⟩ := DataW.trod_struct Tryd.underlying108 hx
    have hl2 : cs.length = 6 := hl.trans cells108
    have s5 := seg_last (w := W) hxs hf 5 _ rfl (opens_slice (d := k108) Tryd.underlying72 (by rw [cells108]; rfl) 108 (fun m hm => ih m (by omega))) (by simp [hl2, cells72])
    have s4 := seg_next (w := W) hxs hf 4 _ rfl (opens_slice (d := k108) Tryd.underlying72 (by rw [cells108]; rfl) 108 (fun m hm => ih m (by omega))) (by simp [cells72]) s5
    have s3 := seg_next (w := W) hxs hf 3 _ rfl (opens_slice (d := k49) Tryd.underlying47 (by rw [cells49]; rfl) 49 (fun m hm => op49 m)) (by simp [cells47]) s4
    have s2 := seg_next (w := W) hxs hf 2 _ rfl (opens_string Tryd.underlying9 n) (by simp [cells9]) s3
    have s1 := seg_next (w := W) hxs hf 1 _ rfl (opens_string Tryd.underlying9 n) (by simp [cells9]) s2
    have s0 := seg_next (w := W) hxs hf 0 _ rfl (opens_int Tryd.underlying3 n) (by simp [cells3]) s1
    obtain ⟨⟨a0, a1, a2, a3, a4, a5⟩, h1, _, _, _, ⟨m3, n3⟩, ⟨m4, n4⟩, ⟨m5, n5⟩⟩ := s0.whole
    obtain ⟨_, _, rfl, rfl, ⟨_, _, rfl, rfl, ⟨_, _, rfl, rfl, ⟨_, _, rfl, ⟨A3, c3, rfl, l3, g3⟩, ⟨_, _, rfl, ⟨A4, c4, rfl, l4, g4⟩, ⟨A5, c5, rfl, l5, g5⟩⟩⟩⟩⟩⟩ := h1
    exact ⟨⟨a0, a1, a2, a3, a4, a5⟩, k108_mk W ⟨a0, a1, a2, a3, a4, a5⟩ l3 g3 l4 g4 l5 g5, .mk _ m3 n3 m4 n4 m5 n5⟩
theorem op74 : ∀ fuel : Nat, Opens enc Tryd.prog W base sp held fuel 74 k74 GoodM := by
  intro fuel
  induction fuel using Nat.strongRecOn with
  | _ fuel ih =>
    intro cs x hx
    obtain ⟨xs, n, rfl, _, hl, hxs, hf⟩ := DataW.trod_struct Tryd.underlying74 hx
    have hl2 : cs.length = 5 := hl.trans cells74
    have s4 := seg_last (w := W) hxs hf 4 _ rfl (opens_slice (d := k108) Tryd.underlying72 (by rw [cells108]; rfl) 108 (fun m hm => op108 m)) (by simp [hl2, cells72])
    have s3 := seg_next (w := W) hxs hf 3 _ rfl (opens_string Tryd.underlying9 n) (by simp [cells9]) s4
    have s2 := seg_next (w := W) hxs hf 2 _ rfl (opens_slice (d := k70) Tryd.underlying40 (by rw [cells70]; rfl) 70 (fun m hm => op70 m)) (by simp [cells40]) s3
    have s1 := seg_next (w := W) hxs hf 1 _ rfl (opens_bool Tryd.underlying4 n) (by simp [cells4]) s2
    have s0 := seg_next (w := W) hxs hf 0 _ rfl (opens_string Tryd.underlying9 n) (by simp [cells9]) s1
    obtain ⟨⟨a0, a1, a2, a3, a4⟩, h1, _, _, ⟨m2, _⟩, _, ⟨m4, n4⟩⟩ := s0.whole
    exact ⟨⟨a0, a1, a2, a3, a4⟩, h1, m2, m4, n4⟩
theorem op43 : ∀ fuel : Nat, Opens enc Tryd.prog W base sp held fuel 43 k43 GoodC := by
  intro fuel
  induction fuel using Nat.strongRecOn with
  | _ fuel ih =>
    intro cs x hx
    obtain ⟨xs, n, rfl, _, hl, hxs, hf⟩ := DataW.trod_struct Tryd.underlying43 hx
    have hl2 : cs.length = 4 := hl.trans cells43
    have s3 := seg_last (w := W) hxs hf 3 _ rfl (opens_slice (d := k74) Tryd.underlying41 (by rw [cells74]; rfl) 74 (fun m hm => op74 m)) (by simp [hl2, cells41])
    have s2 := seg_next (w := W) hxs hf 2 _ rfl (opens_slice (d := k70) Tryd.underlying40 (by rw [cells70]; rfl) 70 (fun m hm => op70 m)) (by simp [cells40]) s3
    have s1 := seg_next (w := W) hxs hf 1 _ rfl (opens_string Tryd.underlying9 n) (by simp [cells9]) s2
    have s0 := seg_next (w := W) hxs hf 0 _ rfl (opens_string Tryd.underlying9 n) (by simp [cells9]) s1
    obtain ⟨⟨a0, a1, a2, a3⟩, h1, _, _, ⟨m2, _⟩, ⟨m3, n3⟩⟩ := s0.whole
    exact ⟨⟨a0, a1, a2, a3⟩, h1, m2, m3, n3⟩
theorem op24 : ∀ fuel : Nat, Opens enc Tryd.prog W base sp held fuel 24 (Kd.slice 43 k43) (fun l => l.length ≤ maxLen ∧ ∀ v ∈ l, GoodC v) := by
  intro fuel
  induction fuel using Nat.strongRecOn with
  | _ fuel ih =>
    intro cs x hx
    obtain ⟨xs, n, rfl, _, hl, hxs, hf⟩ := DataW.trod_struct Tryd.underlying24 hx
    have hl2 : cs.length = 1 := hl.trans cells24
    have s0 := seg_last (w := W) hxs hf 0 _ rfl (opens_slice (d := k43) Tryd.underlying22 (by rw [cells43]; rfl) 43 (fun m hm => op43 m)) (by simp [hl2, cells22])
    obtain ⟨a0, h1, h2⟩ := s0.whole
    exact ⟨a0, h1, h2⟩
set_option maxRecDepth 100000 in
theorem source_open {v : Value} {d : DataW H} {ps : List MemPlace} {r : Reach} {b : Nat} (hv : Value.okWide Tryd.prog W r b 24 v) (h : DataW.Trod enc Tryd.prog W base sp held 24 v d ps) :
    ∃ A0 c0, ∃ l0 : List S43, v = .agg #[.slice A0 l0.length c0] ∧ l0.length ≤ c0 ∧ k43.C W A0 l0.length l0 ∧ l0.length ≤ maxLen ∧ ∀ x, x ∈ l0 → GoodC x := by
  obtain ⟨cs, rfl, _⟩ := okWide_struct Tryd.underlying24 hv
  obtain ⟨fuel, hf⟩ := h
  obtain ⟨l0, ⟨A0, c0, e, h1, h2⟩, h3, h4⟩ := op24 fuel _ _ hf
  refine ⟨A0, c0, l0, ?_, h1, h2, h3, h4⟩
  congr 1
  apply Array.ext'
  simpa [Value.cells] using e
end
end Go.Proofs.YtiffnkmbmenhfaaDoor.Open
