import Derived.Test.YtiffnkmbmenhfaaDoorAw1
import Derived.Test.YtiffnkmbmenhfaaDoorAw2
/-! awake returns true and changes nothing that was there. -/
namespace Go.Proofs.YtiffnkmbmenhfaaDoor.Aw
open Go Go.RowKit Go.Proofs.YtiffnkmbmenhfaaDoor.Run
theorem gMarks : Tryd.prog.globalNamed "dataflow/lex.marks" = some 0 := by kernel_rfl
theorem gKeywords : Tryd.prog.globalNamed "dataflow/lex.keywords" = some 1 := by kernel_rfl
theorem laidRows_cases {g : Nat} {cs : List Value} (h : laidRows[g]? = some cs) : (g = 0 ∧ cs = strs mkBytes) ∨ (g = 1 ∧ cs = strs kwBytes) ∨ cs = [] := by
  unfold laidRows at h
  generalize strs mkBytes = x at h ⊢
  generalize strs kwBytes = y at h ⊢
  match g, h with
  | 0, h => injection h with h; exact .inl ⟨rfl, h.symm⟩
  | 1, h => injection h with h; exact .inr (.inl ⟨rfl, h.symm⟩)
  | 2, h => injection h with h; exact .inr (.inr h.symm)
  | n + 3, h => simp at h
/-- The listed variables' cells lie in the world. -/
def Ready (W : World) : Prop := Lies W laidRows ∧ 3 ≤ W.heap.size
theorem Ready.below {w wc : World} (h : Ready w) (b : Below w.heap.size w wc) : Ready wc := by
  refine ⟨fun g cs hcs i v hv => ?_, Nat.le_trans h.2 b.size⟩
  have hg : g < 3 := (List.getElem?_eq_some_iff.1 hcs).1
  rw [b.cell (show g < w.heap.size from Nat.lt_of_lt_of_le hg h.2)]
  exact h.1 g cs hcs i v hv
theorem ready_of_laid (W : World) (hL : laidMetH Tryd.prog Rows.parseSameRow.laid W) (hsz : 3 ≤ W.heap.size) : Ready W := by
  rw [MakeChecks.laidMetH_plain _ _ _ (by kernel_rfl)] at hL
  obtain ⟨ps, hl, _⟩ := hL
  obtain ⟨m1, m2⟩ := laid_strings hl (n := "dataflow/lex.marks") (ss := mkBytes) (List.mem_of_getElem? (i := 1) rfl) gMarks (t := 129) (e := 9) (k := 15) (by kernel_rfl) (by kernel_rfl) (by kernel_rfl) (by kernel_rfl)
  obtain ⟨k1, k2⟩ := laid_strings hl (n := "dataflow/lex.keywords") (ss := kwBytes) (List.mem_of_getElem? (i := 0) rfl) gKeywords (t := 140) (e := 9) (k := 17) (by kernel_rfl) (by kernel_rfl) (by kernel_rfl) (by kernel_rfl)
  have strs_get : ∀ (ss : List (List UInt8)) (i : Nat) v, (strs ss)[i]? = some v → ∃ b, ss[i]? = some b ∧ v = .string ⟨b.toArray⟩ := by
    intro ss i v hv
    unfold strs at hv
    rw [List.getElem?_map] at hv
    obtain ⟨b, hb, rfl⟩ := Option.map_eq_some_iff.1 hv
    exact ⟨b, hb, rfl⟩
  refine ⟨?_, hsz⟩
  · intro g cs hcs i v hv
    rcases laidRows_cases hcs with ⟨rfl, rfl⟩ | ⟨rfl, rfl⟩ | rfl
    · obtain ⟨b, hb, rfl⟩ := strs_get _ i v hv
      exact m2 i b hb
    · obtain ⟨b, hb, rfl⟩ := strs_get _ i v hv
      exact k2 i b hb
    · simp at hv
theorem awake_calls (W : World) (h : Ready W) : Calls Tryd.prog 11 #[] W fun e W' => e = .returned (.bool true) ∧ Below W.heap.size W W' := by
  obtain ⟨h1, hr⟩ := good_some runs
  refine closed_true (by kernel_rfl) (l := laidRows) (by kernel_rfl) (by decide) h.2 ?_ h.1 fine hr
  intro g cs hcs v hv
  have hstr : ∀ ss, v ∈ strs ss → ground 8 v = true := by
    intro ss hm
    obtain ⟨b, _, rfl⟩ := List.mem_map.1 hm
    rfl
  rcases laidRows_cases hcs with ⟨_, rfl⟩ | ⟨_, rfl⟩ | rfl
  · exact hstr _ hv
  · exact hstr _ hv
  · cases hv
end Go.Proofs.YtiffnkmbmenhfaaDoor.Aw
