import Derived.Test.YtjpmlaehincmaaaDoorAw1
import Derived.Test.YtjpmlaehincmaaaDoorAw2
/-! awake returns true and changes nothing that was there. -/
namespace Go.Proofs.YtjpmlaehincmaaaDoor.Aw
open Go Go.RowKit Go.Proofs.YtjpmlaehincmaaaDoor.Run
theorem gKeywords : Tryd.prog.globalNamed "dataflow/lex.keywords" = some 0 := by kernel_rfl
/-- The listed variable's cells lie in the world. -/
def Ready (W : World) : Prop := Lies W laidRows ∧ 1 ≤ W.heap.size
theorem laidRows_cases {g : Nat} {cs : List Value} (h : laidRows[g]? = some cs) : g = 0 ∧ cs = strs kwBytes := by
  unfold laidRows at h
  generalize strs kwBytes = x at h ⊢
  match g, h with
  | 0, h => injection h with h; exact ⟨rfl, h.symm⟩
  | n + 1, h => simp at h
theorem Ready.below {w wc : World} (h : Ready w) (b : Below w.heap.size w wc) : Ready wc := by
  refine ⟨fun g cs hcs i v hv => ?_, Nat.le_trans h.2 b.size⟩
  have hg : g < 1 := (List.getElem?_eq_some_iff.1 hcs).1
  rw [b.cell (show g < w.heap.size from Nat.lt_of_lt_of_le hg h.2)]
  exact h.1 g cs hcs i v hv
theorem ready_of_laid (W : World) (hL : laidMetH Tryd.prog Rows.typecheckReturnsRow.laid W) : Ready W := by
  rw [MakeChecks.laidMetH_plain _ _ _ (by kernel_rfl)] at hL
  obtain ⟨ps, hl, _⟩ := hL
  obtain ⟨k1, k2⟩ := laid_strings hl (n := "dataflow/lex.keywords") (ss := kwBytes) (List.mem_of_getElem? (i := 0) rfl) gKeywords (t := 114) (e := 9) (k := 17) (by kernel_rfl) (by kernel_rfl) (by kernel_rfl) (by kernel_rfl)
  have strs_get : ∀ (ss : List (List UInt8)) (i : Nat) v, (strs ss)[i]? = some v → ∃ b, ss[i]? = some b ∧ v = .string ⟨b.toArray⟩ := by
    intro ss i v hv
    unfold strs at hv
    rw [List.getElem?_map] at hv
    obtain ⟨b, hb, rfl⟩ := Option.map_eq_some_iff.1 hv
    exact ⟨b, hb, rfl⟩
  refine ⟨?_, k1⟩
  intro g cs hcs i v hv
  obtain ⟨rfl, rfl⟩ := laidRows_cases hcs
  obtain ⟨b, hb, rfl⟩ := strs_get _ i v hv
  exact k2 i b hb
theorem awake_calls (W : World) (h : Ready W) : Calls Tryd.prog 7 #[] W fun e W' => e = .returned (.bool true) ∧ Below W.heap.size W W' := by
  obtain ⟨h1, hr⟩ := good_some runs
  refine closed_true (by kernel_rfl) (l := laidRows) (by kernel_rfl) (by decide) h.2 ?_ h.1 fine hr
  intro g cs hcs v hv
  obtain ⟨rfl, rfl⟩ := laidRows_cases hcs
  obtain ⟨b, _, rfl⟩ := List.mem_map.1 hv
  rfl
end Go.Proofs.YtjpmlaehincmaaaDoor.Aw
