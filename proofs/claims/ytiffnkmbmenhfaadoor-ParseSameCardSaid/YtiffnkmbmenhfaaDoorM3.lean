import Derived.Test.YtiffnkmbmenhfaaDoorM2
import Derived.Deep.AppendSrc
/-! append. -/
namespace Go.Proofs.YtiffnkmbmenhfaaDoor.Run
open Go Go.RowKit
set_option linter.unusedVariables false
set_option linter.unusedSimpArgs false

theorem AH.rowCells_cell {h : AH} {a : Addr} {n : Nat} {l : List Value} (hl : rowCells h a n = some l) : l.length = n ∧ ∀ (j : Nat) v, l[j]? = some v → h.cell ⟨a.block, a.off + j, none⟩ = some v := by
  unfold rowCells at hl
  have key : ∀ cs : List Value, (if a.off + n ≤ cs.length then some ((cs.drop a.off).take n) else none) = some l → l.length = n ∧ ∀ (j : Nat) v, l[j]? = some v → cs[a.off + j]? = some v := by
    intro cs hc
    split at hc
    · rename_i hle
      injection hc with hc
      subst hc
      refine ⟨by rw [List.length_take, List.length_drop]; omega, fun j v hj => ?_⟩
      rw [List.getElem?_take] at hj
      split at hj
      · rw [List.getElem?_drop] at hj
        exact hj
      · simp at hj
    · simp at hc
  split at hl
  · rename_i cs hg
    obtain ⟨h1, h2⟩ := key cs hl
    exact ⟨h1, fun j v hj => by simp only [AH.cell, hg]; exact h2 j v hj⟩
  · rename_i cs hg
    obtain ⟨h1, h2⟩ := key cs hl
    exact ⟨h1, fun j v hj => by simp only [AH.cell, hg]; exact h2 j v hj⟩
  · simp at hl
theorem Addr.add_off {b o : Nat} (j : Nat) : (⟨b, o, none⟩ : Addr).add j = ⟨b, o + j, none⟩ := by
  unfold Addr.add
  by_cases h : j = 0
  · simp [h]
  · rw [if_neg h]
/-- The cells of a row, and those that they stand for. -/
theorem rowCells_rel {ρ : Ren} {h : AH} {w : World} (hw : WRel ρ h w) {a : Addr} {p : Spot} (hp : ρ a.block = some p) {n : Nat} {l : List Value} (hl : rowCells h a n = some l) :
    ∃ l', LsRel ρ l l' ∧ ∀ (j : Nat) v, l'[j]? = some v → w.cell? ((⟨p.b, a.off + p.s, none⟩ : Addr).add j) = some v := by
  obtain ⟨h1, h2⟩ := AH.rowCells_cell hl
  have each : ∀ j : Nat, j < l.length → ∃ v', w.cell? ((⟨p.b, a.off + p.s, none⟩ : Addr).add j) = some v' ∧ ∀ v, l[j]? = some v → VRel ρ v v' := by
    intro j hj
    have hc := h2 j l[j] (List.getElem?_eq_getElem hj)
    obtain ⟨v', h3, h4⟩ := hw.cell (a := ⟨a.block, a.off + j, none⟩) ⟨p, hp, rfl⟩ hc
    refine ⟨v', ?_, fun v hv => ?_⟩
    · rw [Addr.add_off, ← h3]
      have e : a.off + p.s + j = a.off + j + p.s := by omega
      rw [e]
    · rw [List.getElem?_eq_getElem hj] at hv
      injection hv with hv
      subst hv
      exact h4
  have build : ∀ m, m ≤ l.length → ∃ l' : List Value, l'.length = m ∧ ∀ (j : Nat) v', l'[j]? = some v' → w.cell? ((⟨p.b, a.off + p.s, none⟩ : Addr).add j) = some v' ∧ ∀ v, l[j]? = some v → VRel ρ v v' := by
    intro m
    induction m with
    | zero => exact fun _ => ⟨[], rfl, fun j v hv => by simp at hv⟩
    | succ m ih =>
      intro hm
      obtain ⟨l', h3, h4⟩ := ih (by omega)
      obtain ⟨v', h5, h6⟩ := each m (by omega)
      refine ⟨l' ++ [v'], by simp [h3], fun j u hu => ?_⟩
      rw [List.getElem?_append] at hu
      split at hu
      · exact h4 j u hu
      · rename_i hj
        have : j = m := by
          have := (List.getElem?_eq_some_iff.1 hu).1
          simp at this
          omega
        subst this
        rw [h3, Nat.sub_self] at hu
        simp at hu
        subst hu
        exact ⟨h5, h6⟩
  obtain ⟨l', h3, h4⟩ := build l.length (Nat.le_refl _)
  exact ⟨l', ⟨h3.symm, fun j u v hu hv => (h4 j v hv).2 u hu⟩, fun j v hv => (h4 j v hv).1⟩
theorem LsRel.oneCell {ρ : Ren} {l l' : List Value} (h : LsRel ρ l l') (ha : l.all (·.oneCell') = true) : ∀ u ∈ l', u.oneCell' = true := by
  intro u hu
  obtain ⟨i, hi, rfl⟩ := List.getElem_of_mem hu
  have hi' : i < l.length := by rw [h.1]; exact hi
  have := h.2 i l[i] l'[i] (List.getElem?_eq_getElem hi') (List.getElem?_eq_getElem hi)
  rw [← this.oneCell]
  exact (List.all_eq_true.1 ha) _ (List.getElem_mem hi')
theorem LsRel.refl_bytes (ρ : Ren) (s : ByteArray) : LsRel ρ (byteCells s) (byteCells s) := by
  refine ⟨rfl, fun i u v hu hv => ?_⟩
  rw [hu] at hv
  injection hv with hv
  subst hv
  unfold byteCells at hu
  rw [List.getElem?_map] at hu
  obtain ⟨b, _, rfl⟩ := Option.map_eq_some_iff.1 hu
  exact .int _ _
/-- What is appended, over blocks. -/
theorem src_rel {P : Program} {ρ : Ren} {h : AH} {w : World} (hw : WRel ρ h w) {size : Nat} {u : TypeId} {x x' : Value} (hx : VRel ρ x x') {n : Nat} {news : List Value} (hs : srcCells P h size u x = some (n, news)) (h1 : news.all (·.oneCell') = true) :
    ∃ news', LsRel ρ news news' ∧ Src P size u x' n news' w := by
  unfold srcCells at hs
  cases hu : P.underlying u with
  | none => rw [hu] at hs; simp at hs
  | some d =>
    rw [hu] at hs
    cases d with
    | string => cases hx with
      | string s =>
        simp only at hs
        split at hs
        · rename_i h0
          subst h0
          simp only [Option.some.injEq, Prod.mk.injEq] at hs
          obtain ⟨rfl, rfl⟩ := hs
          exact ⟨byteCells s, LsRel.refl_bytes ρ s, Src.ofString w hu s⟩
        · simp at hs
      | _ => simp at hs
    | slice e =>
      have some_ : ∀ (a : Addr) (p : Spot) (len cap cap' : Nat), ρ a.block = some p → sliceCells h (some a) (len * size) = some news → len = n →
          ∃ news', LsRel ρ news news' ∧ Src P size u (.slice (some ⟨p.b, a.off + p.s, none⟩) len cap') n news' w := by
        intro a p len cap cap' hp hc hn
        subst hn
        unfold sliceCells at hc
        simp only at hc
        split at hc
        · rename_i h0
          simp only [Option.some.injEq] at hc
          subst hc
          refine ⟨[], ⟨rfl, fun i u v hu => by simp at hu⟩, ?_⟩
          exact Src.ofSlice w hu _ _ _ [] (by simp [h0]) (fun j v hv => by simp at hv) (fun u hu => by simp at hu)
        · obtain ⟨l', h3, h4⟩ := rowCells_rel hw hp hc
          have hlen : l'.length = len * size := by rw [← h3.1]; exact (AH.rowCells_cell hc).1
          exact ⟨l', h3, Src.ofSlice w hu _ _ _ l' hlen h4 (h3.oneCell h1)⟩
      cases hx with
      | nilSlice =>
        simp only [sliceCells, Nat.zero_mul, if_true, Option.some.injEq, Prod.mk.injEq] at hs
        obtain ⟨rfl, rfl⟩ := hs
        exact ⟨[], ⟨rfl, fun i u v hu => by simp at hu⟩, Src.ofNil w hu 0⟩
      | slice a p len cap hp hsp hl =>
        simp only at hs
        split at hs
        · rename_i l hc
          simp only [Option.some.injEq, Prod.mk.injEq] at hs
          obtain ⟨rfl, rfl⟩ := hs
          exact some_ a p _ cap cap hp hc rfl
        · simp at hs
      | grown a p z len cap cap' hp hsp hz hl hc he =>
        simp only at hs
        split at hs
        · rename_i l hc
          simp only [Option.some.injEq, Prod.mk.injEq] at hs
          obtain ⟨rfl, rfl⟩ := hs
          exact some_ a p _ cap cap' hp hc rfl
        · simp at hs
      | void a b o c hsp =>
        simp only [sliceCells, Nat.zero_mul, if_true, Option.some.injEq, Prod.mk.injEq] at hs
        obtain ⟨rfl, rfl⟩ := hs
        exact ⟨[], ⟨rfl, fun i u v hu => by simp at hu⟩, Src.ofSlice w hu _ _ _ [] (by simp) (fun j v hv => by simp at hv) (fun u hu => by simp at hu)⟩
      | _ => simp at hs
    | _ => simp at hs
/-- Cells stored into a row. -/
theorem setCells_rel {ρ : Ren} {a : Addr} {p : Spot} (hp : ρ a.block = some p) : ∀ (l l' : List Value) (h h' : AH) (w : World) (i : Nat), WRel ρ h w → LsRel ρ l l' → setCells h a i l = some h' →
    (∀ j, j < l'.length → (w.cell? ⟨p.b, a.off + p.s + i + j, none⟩).isSome = true) ∧ (∀ j, j < l'.length → w.frozen? ⟨p.b, a.off + p.s + i + j, none⟩ = false) ∧
      WRel ρ h' (w.setCells p.b (a.off + p.s + i) l') ∧ Fr ρ h w ρ h' (w.setCells p.b (a.off + p.s + i) l') := by
  intro l
  induction l with
  | nil =>
    intro l' h h' w i hw hl hs
    cases l' with
    | nil =>
      simp only [setCells, Option.some.injEq] at hs
      subst hs
      exact ⟨fun j hj => by simp at hj, fun j hj => by simp at hj, hw, Fr.refl _ _ _⟩
    | cons v' l' => exact absurd hl.1 (by simp)
  | cons v l ih =>
    intro l' h h' w i hw hl hs
    cases l' with
    | nil => exact absurd hl.1 (by simp)
    | cons v' l' =>
      simp only [setCells] at hs
      cases hc : h.setCell (a.add i) v with
      | none => rw [hc] at hs; simp at hs
      | some h1 =>
        rw [hc] at hs
        have ha : ARel ρ (a.add i) ⟨p.b, a.off + p.s + i, none⟩ := by
          have h0 : ARel ρ a ⟨p.b, a.off + p.s, none⟩ := ⟨p, hp, rfl⟩
          have := h0.add i
          rw [Addr.add_off] at this
          exact this
        obtain ⟨⟨u, hu⟩, hf, hw1, hfr⟩ := hw.setCell ha hl.tail.1 hc
        obtain ⟨h2, h3, h4, h5⟩ := ih l' h1 h' (w.setCell ⟨p.b, a.off + p.s + i, none⟩ v') (i + 1) hw1 hl.tail.2 hs
        have e : a.off + p.s + (i + 1) = a.off + p.s + i + 1 := by omega
        rw [e] at h2 h3 h4 h5
        refine ⟨fun j hj => ?_, fun j hj => ?_, h4, hfr.trans h5⟩
        · cases j with
          | zero => rw [Nat.add_zero, hu]; rfl
          | succ j =>
            have := h2 j (by simpa using hj)
            rw [World.cell?_setCell_other _ _ _ _ (by intro e; injection e with e1 e2 e3; omega)] at this
            rw [show a.off + p.s + i + (j + 1) = a.off + p.s + i + 1 + j by omega]
            exact this
        · cases j with
          | zero => rw [Nat.add_zero]; exact hf
          | succ j =>
            have := h3 j (by simpa using hj)
            rw [World.frozen?_setCell] at this
            rw [show a.off + p.s + i + (j + 1) = a.off + p.s + i + 1 + j by omega]
            exact this
end Go.Proofs.YtiffnkmbmenhfaaDoor.Run
/-! append: what becomes of rows. -/
namespace Go.Proofs.YtiffnkmbmenhfaaDoor.Run
open Go Go.RowKit
set_option linter.unusedVariables false
set_option linter.unusedSimpArgs false

theorem WRel.key_lt {ρ : Ren} {h : AH} {w : World} (hw : WRel ρ h w) {a : Nat} {p : Spot} (hp : ρ a = some p) : a < 1073741824 := by
  have := hw.old _ _ hp
  have := hw.lim
  simp only [AH.lim] at this
  omega
theorem WRel.drew {ρ : Ren} {h : AH} {w : World} (hw : WRel ρ h w) : WRel ρ h w.drew ∧ Fr ρ h w ρ h w.drew :=
  ⟨⟨hw.lim, hw.old, hw.low, fun a p r hp hg => RowRel.mono (Ren.le_refl ρ) rfl (hw.row a p r hp hg), hw.inj⟩, rfl, rfl, rfl, Nat.le_refl _, Ren.le_refl ρ, fun b _ hn => ⟨rfl, hn⟩, Nat.le_refl _, fun _ _ e => ⟨e, rfl⟩⟩
/-- A row left behind. -/
theorem WRel.kill {ρ : Ren} {h : AH} {w : World} (hw : WRel ρ h w) {a : Nat} {p : Spot} (hp : ρ a = some p) {cs : List Value} (hg : h.get a = some (.rw cs)) :
    WRel ρ (h.put a .dead) w ∧ Fr ρ h w ρ (h.put a .dead) w := by
  have hget : ∀ q, (h.put a .dead).get q = if q = a then some .dead else h.get q := fun q => AH.get_put _ _ _ _ (hw.key_lt hp)
  refine ⟨⟨by rw [AH.next_put]; exact hw.lim, fun x q hq => by rw [AH.next_put]; exact hw.old x q hq, hw.low, ?_, ?_⟩, rfl, rfl, rfl, Nat.le_refl _, Ren.le_refl ρ, fun b hb hn => ⟨rfl, ?_⟩, by rw [AH.next_put]; exact Nat.le_refl _, fun k _ e => ⟨e, by rw [hget, if_neg (by rintro rfl; rw [hp] at e; cases e)]⟩⟩
  · intro x q r hq hr
    rw [hget] at hr
    by_cases hx : x = a
    · rw [if_pos hx] at hr
      injection hr with hr
      subst hr
      trivial
    · rw [if_neg hx] at hr
      exact hw.row x q r hq hr
  · intro x y q q' hx hy hb hne
    rw [hget, hget]
    by_cases hxa : x = a
    · left; rw [if_pos hxa]
    · by_cases hya : y = a
      · right; rw [if_pos hya]
      · rw [if_neg hxa, if_neg hya]
        exact hw.inj x y q q' hx hy hb hne
  · rintro ⟨x, q, hq, hqb, hro⟩
    refine hn ⟨x, q, hq, hqb, fun cs' hc => ?_⟩
    by_cases hx : x = a
    · subst hx; rw [hg] at hc; cases hc
    · exact hro cs' (by rw [hget, if_neg hx]; exact hc)
/-- A block all of whose rows are left behind may turn. -/
theorem WRel.turn {ρ : Ren} {h : AH} {w w' : World} (hw : WRel ρ h w) {B : Nat} (hdead : ∀ a p, ρ a = some p → p.b = B → h.get a = some .dead) (hB : ∃ a p, ρ a = some p ∧ p.b = B)
    (ho : w'.os = w.os) (ht : w'.tape = w.tape) (hp : w'.output = w.output) (hs : w'.heap.size = w.heap.size) (hother : ∀ b, b ≠ B → b < w.heap.size → w'.heap[b]? = w.heap[b]?) : WRel ρ h w' ∧ Fr ρ h w ρ h w' := by
  refine ⟨⟨hw.lim, hw.old, fun a p hpp => by rw [hs]; exact hw.low a p hpp, ?_, hw.inj⟩, ho, ht, hp, by omega, Ren.le_refl ρ, fun b hb hn => ⟨?_, hn⟩, Nat.le_refl _, fun _ _ e => ⟨e, rfl⟩⟩
  · intro a p r hpp hr
    by_cases hb : p.b = B
    · rw [hdead a p hpp hb] at hr
      injection hr with hr
      subst hr
      trivial
    · exact RowRel.mono (Ren.le_refl ρ) (hother _ hb (hw.low a p hpp)) (hw.row a p r hpp hr)
  · refine hother b ?_ hb
    rintro rfl
    obtain ⟨a, p, h1, h2⟩ := hB
    exact hn ⟨a, p, h1, h2, fun cs hc => by rw [hdead a p h1 h2] at hc; cases hc⟩
/-- A new row at a block all of whose rows are left behind. -/
theorem WRel.revive {ρ : Ren} {h : AH} {w : World} (hw : WRel ρ h w) (hl : h.next < AH.lim) {q : Spot} (hdead : ∀ a p, ρ a = some p → p.b = q.b → h.get a = some .dead) (hB : ∃ a p, ρ a = some p ∧ p.b = q.b)
    (cs : List Value) (hr : RowRel ρ w q (.rw cs)) : WRel (ρ.with h.next q) (h.push (.rw cs)) w ∧ Fr ρ h w (ρ.with h.next q) (h.push (.rw cs)) w := by
  have hnone : ρ h.next = none := by
    cases hx : ρ h.next with
    | none => rfl
    | some p => exact absurd (hw.old _ _ hx) (Nat.lt_irrefl _)
  have hle := Ren.with_le (p := q) hnone
  have hget : ∀ k, (h.push (.rw cs)).get k = if k = h.next then some (.rw cs) else h.get k := fun k => AH.get_push h k _ hl
  refine ⟨⟨?_, ?_, ?_, ?_, ?_⟩, rfl, rfl, rfl, Nat.le_refl _, hle, ?_, by rw [AH.next_push]; exact Nat.le_succ _, fun k hk e => ⟨by unfold Ren.with; rw [if_neg (by omega)]; exact e, by rw [hget, if_neg (by omega)]⟩⟩
  · rw [AH.next_push]; exact hl
  · intro a p hp
    rw [AH.next_push]
    unfold Ren.with at hp
    split at hp
    · omega
    · have := hw.old a p hp; omega
  · intro a p hp
    unfold Ren.with at hp
    split at hp
    · injection hp with hp
      subst hp
      obtain ⟨x, y, h1, h2⟩ := hB
      rw [← h2]
      exact hw.low x y h1
    · exact hw.low a p hp
  · intro a p r hp hrr
    rw [hget] at hrr
    unfold Ren.with at hp
    by_cases ha : a = h.next
    · rw [if_pos ha] at hp hrr
      injection hp with hp
      injection hrr with hrr
      subst hp hrr
      exact RowRel.mono hle rfl hr
    · rw [if_neg ha] at hp hrr
      exact RowRel.mono hle rfl (hw.row a p r hp hrr)
  · intro a a' p p' hp hp' hb hne
    unfold Ren.with at hp hp'
    rw [hget, hget]
    by_cases ha : a = h.next
    · rw [if_pos ha] at hp
      injection hp with hp
      by_cases ha' : a' = h.next
      · exact absurd (ha.trans ha'.symm) hne
      · rw [if_neg ha'] at hp'
        right
        rw [if_neg ha']
        exact hdead a' p' hp' (by rw [← hb, ← hp])
    · rw [if_neg ha] at hp
      by_cases ha' : a' = h.next
      · rw [if_pos ha'] at hp'
        injection hp' with hp'
        left
        rw [if_neg ha]
        exact hdead a p hp (by rw [hb, ← hp'])
      · rw [if_neg ha'] at hp'
        rw [if_neg ha, if_neg ha']
        exact hw.inj a a' p p' hp hp' hb hne
  · intro b hb hn
    refine ⟨rfl, ?_⟩
    rintro ⟨a, p, hp, hpb, hro⟩
    unfold Ren.with at hp
    by_cases ha : a = h.next
    · rw [if_pos ha] at hp
      injection hp with hp
      subst hp
      obtain ⟨x, y, h1, h2⟩ := hB
      exact hn ⟨x, y, h1, h2.trans hpb, fun cs' hc => by rw [hdead x y h1 h2] at hc; cases hc⟩
    · rw [if_neg ha] at hp
      refine hn ⟨a, p, hp, hpb, fun cs' hc => hro cs' ?_⟩
      rw [hget, if_neg ha]
      exact hc
end Go.Proofs.YtiffnkmbmenhfaaDoor.Run
/-! append: the rule. -/
namespace Go.Proofs.YtiffnkmbmenhfaaDoor.Run
open Go Go.RowKit
set_option linter.unusedVariables false
set_option linter.unusedSimpArgs false

theorem elemFine_spec {P : Program} {t e : TypeId} {size : Nat} (h : elemFine P t = some (e, size)) :
    P.underlying t = some (.slice e) ∧ ∃ i z, P.info? e = some i ∧ i.zero = some z ∧ i.size = size ∧ i.bytes ≤ 4096 ∧ 0 < size ∧ z.cells.size = size := by
  unfold elemFine at h
  cases hu : P.underlying t with
  | none => rw [hu] at h; simp at h
  | some d =>
    rw [hu] at h
    cases d with
    | slice e' =>
      simp only at h
      cases hi : P.info? e' with
      | none => rw [hi] at h; simp at h
      | some i =>
        rw [hi] at h
        simp only at h
        cases hz : i.zero with
        | none => rw [hz] at h; simp at h
        | some z =>
          rw [hz] at h
          simp only at h
          split at h
          · rename_i hc
            simp only [Option.some.injEq, Prod.mk.injEq] at h
            obtain ⟨rfl, rfl⟩ := h
            exact ⟨rfl, i, z, hi, hz, rfl, hc.1, hc.2.1, hc.2.2⟩
          · simp at h
    | _ => simp at h
/-- The cells behind a slice's address. -/
theorem sliceCells_run {P : Program} {ρ : Ren} {h : AH} {w : World} (hw : WRel ρ h w) {a : Addr} {p : Spot} (hp : ρ a.block = some p) {len size cap : Nat} {l : List Value} (hl : sliceCells h (some a) (len * size) = some l) :
    ∃ l', LsRel ρ l l' ∧ l'.length = len * size ∧ (Builtin.firstCells size len (.slice (some ⟨p.b, a.off + p.s, none⟩) len cap)).run P w.drew = .ok l'.toArray w.drew ∧
      ∀ (j : Nat) v, l'[j]? = some v → w.cell? ((⟨p.b, a.off + p.s, none⟩ : Addr).add j) = some v := by
  unfold sliceCells at hl
  simp only at hl
  split at hl
  · rename_i h0
    simp only [Option.some.injEq] at hl
    subst hl
    exact ⟨[], ⟨rfl, fun i u v hu => by simp at hu⟩, by simp [h0], run_firstCells_some w.drew size len _ len cap [] (by simp [h0]) (fun j v hv => by simp at hv), fun j v hv => by simp at hv⟩
  · obtain ⟨l', h3, h4⟩ := rowCells_rel hw hp hl
    have hlen : l'.length = len * size := by rw [← h3.1]; exact (AH.rowCells_cell hl).1
    exact ⟨l', h3, hlen, run_firstCells_some w.drew size len _ len cap l' hlen (by simpa using h4), h4⟩
/-- A row of its own, longer than what is in it. -/
theorem grow_new {ρ : Ren} {h : AH} {w : World} (hw : WRel ρ h w) (hl : h.next < AH.lim) {l l' : List Value} (hll : LsRel ρ l l') (z : Array Value) (e : TypeId) :
    WRel (ρ.with h.next ⟨w.heap.size, 0, (l'.toArray ++ z).size⟩) (h.push (.rw l)) (w.drew.alloc (.cells (l'.toArray ++ z) e)) ∧
      Fr ρ h w (ρ.with h.next ⟨w.heap.size, 0, (l'.toArray ++ z).size⟩) (h.push (.rw l)) (w.drew.alloc (.cells (l'.toArray ++ z) e)) := by
  obtain ⟨hw1, f1⟩ := hw.drew
  have hr : RowRel ρ (w.drew.alloc (.cells (l'.toArray ++ z) e)) ⟨w.drew.heap.size, 0, (l'.toArray ++ z).size⟩ (.rw l) := by
    refine ⟨fun i v hv => ?_, fun j hj => ?_, fun j => World.frozen?_alloc_new _ _ _ _, ?_⟩
    · have hi := (List.getElem?_eq_some_iff.1 hv).1
      have hi' : i < l'.length := by rw [← hll.1]; exact hi
      refine ⟨l'[i], ?_, hll.2 i v _ hv (List.getElem?_eq_getElem hi')⟩
      rw [Nat.add_zero, World.cell?_alloc_new, Array.getElem?_append_left (by simpa using hi')]
      simp [hi']
    · rw [World.cell?_alloc_new, Array.getElem?_eq_getElem hj]
      rfl
    · simp only [Array.size_append, List.size_toArray, Nat.add_zero]
      rw [hll.1]
      omega
  obtain ⟨h1, h2⟩ := hw1.push hl (.rw l) (.cells (l'.toArray ++ z) e) (l'.toArray ++ z).size (fun _ e => by cases e) hr
  exact ⟨h1, f1.trans h2⟩
end Go.Proofs.YtiffnkmbmenhfaaDoor.Run
/-! append: that the rule is sound. -/
namespace Go.Proofs.YtiffnkmbmenhfaaDoor.Run
open Go Go.RowKit
set_option linter.unusedVariables false
set_option linter.unusedSimpArgs false

theorem setCells_frame (b : Nat) : ∀ (vs : List Value) (o : Nat) (w : World), (w.setCells b o vs).os = w.os ∧ (w.setCells b o vs).tape = w.tape ∧ (w.setCells b o vs).output = w.output ∧ (w.setCells b o vs).heap.size = w.heap.size ∧
    ∀ k, k ≠ b → (w.setCells b o vs).heap[k]? = w.heap[k]? := by
  intro vs
  induction vs with
  | nil => exact fun o w => ⟨rfl, rfl, rfl, rfl, fun k _ => rfl⟩
  | cons v vs ih =>
    intro o w
    obtain ⟨h1, h2, h3, h4, h5⟩ := ih (o + 1) (w.setCell ⟨b, o, none⟩ v)
    exact ⟨h1, h2, h3, by rw [← World.size_setCell w ⟨b, o, none⟩ v]; exact h4, fun k hk => (h5 k hk).trans (Below.heap_setCell _ _ _ _ hk)⟩
/-- Behind an address: room, or none. -/
theorem appendTo_at {P : Program} {ρ : Ren} {h h1 : AH} {w : World} (hw : WRel ρ h w) {t u ty e : TypeId} {i : TypeInfo} {z : Value} (ht : P.underlying t = some (.slice e)) (hi : P.info? e = some i) (hz : i.zero = some z)
    (hby : i.bytes ≤ 4096) (hsz : 0 < i.size) (hzs : z.cells.size = i.size) {a : Addr} {p : Spot} (hp : ρ a.block = some p) {len cap cap' n : Nat} (hlc : len ≤ cap) (hcc : cap ≤ cap') (hx : a.spot = none → cap = cap')
    (hgr : ∀ q, a.spot = some q → 0 < q ∧ a.off + p.s + cap' * q ≤ p.e) {x' : Value} {news news' : List Value} (hll : LsRel ρ news news') (hsrc : Src P i.size u x' n news' w) (hsmall : len + n ≤ 1000000) {v : Value}
    (ha : appendTo h i.size (some a) len cap n news = some (v, h1)) :
    ∃ ρ1 v' w1, (Builtin.append_ #[t, u] ty #[.slice (some ⟨p.b, a.off + p.s, none⟩) len cap', x']).run P w = .ok v' w1 ∧ WRel ρ1 h1 w1 ∧ VRel ρ1 v v' ∧ Fr ρ h w ρ1 h1 w1 := by
  have hfit : ∀ c, c < len + n → Builtin.nextslicecap (len + n) c * i.bytes ≤ 281474976710656 := by
    intro c hc
    refine growslice_fits hc ?_
    calc (len + n) * i.bytes ≤ 1000000 * 4096 := Nat.mul_le_mul hsmall hby
      _ ≤ _ := by decide
  have h63 : ((len + n : Nat) : Int) ≤ 9223372036854775807 := by omega
  unfold appendTo at ha
  split at ha
  · -- there is room
    rename_i hroom
    simp only at ha
    cases hs : setCells h (a.add (len * i.size)) 0 news with
    | none => rw [hs] at ha; simp at ha
    | some h2 =>
      rw [hs] at ha
      simp only [Option.some.injEq, Prod.mk.injEq] at ha
      obtain ⟨rfl, rfl⟩ := ha
      have hab : (a.add (len * i.size)).block = a.block := by unfold Addr.add; split <;> rfl
      have hao : (a.add (len * i.size)).off = a.off + len * i.size := by
        unfold Addr.add
        split
        · rename_i h0; omega
        · rfl
      obtain ⟨c1, c2, c3, c4⟩ := setCells_rel (a := a.add (len * i.size)) (by rw [hab]; exact hp) news news' h h2 w 0 hw hll hs
      have e0 : (a.add (len * i.size)).off + p.s + 0 = a.off + p.s + len * i.size := by omega
      rw [e0] at c1 c2 c3 c4
      refine ⟨ρ, _, _, run_append_room_src (P := P) w t u ty e i ht hi p.b (a.off + p.s) len cap' x' n news' hsrc (by omega) c1 c2, c3, ?_, c4⟩
      cases hsp : a.spot with
      | none =>
        rw [← hx hsp]
        exact .slice a p _ _ hp hsp hroom
      | some q =>
        obtain ⟨g1, g2⟩ := hgr q hsp
        exact .grown a p q _ _ _ hp hsp g1 hroom hcc g2
  · rename_i hroom
    split at ha
    · rename_i hl
      cases hsc : sliceCells h (some a) (len * i.size) with
      | none => rw [hsc] at ha; simp at ha
      | some olds =>
        rw [hsc] at ha
        simp only at ha
        obtain ⟨olds', o1, o2, o3, o4⟩ := sliceCells_run (P := P) (cap := cap') hw hp hsc
        have hlls := o1.append hll
        have hge := grownCap_ge w (len + n) cap' e
        have anew : ∀ (g : AH) (hg : WRel ρ g w), g.next = h.next → cap' < len + n →
            ∃ ρ1 v' w1, (Builtin.append_ #[t, u] ty #[.slice (some ⟨p.b, a.off + p.s, none⟩) len cap', x']).run P w = .ok v' w1 ∧ WRel ρ1 (g.push (.rw (olds ++ news))) w1 ∧
              VRel ρ1 (.slice (some ⟨h.next, 0, some i.size⟩) (len + n) (len + n)) v' ∧ Fr ρ g w ρ1 (g.push (.rw (olds ++ news))) w1 := by
          intro g hg hgn hlt
          have hgl : g.next < AH.lim := by rw [hgn]; exact hl
          obtain ⟨n1, n2⟩ := grow_new hg hgl hlls (Builtin.zeroCells z.cells (grownCap w (len + n) cap' e - (len + n))) e
          refine ⟨_, _, _, run_append_grow_src (P := P) w t u ty e i z ht hi hz (some ⟨p.b, a.off + p.s, none⟩) len cap' olds' o3 x' n news' hsrc hlt h63 (hfit cap' hlt), n1, ?_, n2⟩
          refine .grown ⟨h.next, 0, some i.size⟩ ⟨w.heap.size, 0, ((olds' ++ news').toArray ++ Builtin.zeroCells z.cells (grownCap w (len + n) cap' e - (len + n))).size⟩ i.size _ _ _ (by rw [← hgn]; exact Ren.with_same _ _ _) rfl hsz (Nat.le_refl _) hge ?_
          simp only [Array.size_append, List.size_toArray, List.length_append, size_zeroCells, hzs, o2, hsrc.newsLen, ← Nat.add_mul]
          have : len + n + (grownCap w (len + n) cap' e - (len + n)) = grownCap w (len + n) cap' e := by omega
          rw [this]
          omega
        cases hsp : a.spot with
        | none =>
          rw [hsp] at ha
          simp only [Option.some.injEq, Prod.mk.injEq] at ha
          obtain ⟨rfl, rfl⟩ := ha
          exact anew h hw rfl (by rw [← hx hsp]; omega)
        | some q =>
          rw [hsp] at ha
          simp only at ha
          split at ha
          · rename_i cs hg
            split at ha
            · rename_i hq
              subst hq
              simp only [Option.some.injEq, Prod.mk.injEq] at ha
              obtain ⟨rfl, rfl⟩ := ha
              obtain ⟨k1, k2⟩ := hw.kill hp hg
              by_cases hin : len + n ≤ cap'
              · obtain ⟨g1, g2⟩ := hgr _ hsp
                have hrow := hw.row a.block p _ hp hg
                have hnl : news'.length = n * i.size := hsrc.newsLen
                have hmul : len * i.size + n * i.size ≤ cap' * i.size := by rw [← Nat.add_mul]; exact Nat.mul_le_mul_right _ hin
                have c1 : ∀ j, j < news'.length → (w.cell? ⟨p.b, a.off + p.s + len * i.size + j, none⟩).isSome = true := fun j hj => hrow.2.1 _ (by omega)
                have c2 : ∀ j, j < news'.length → w.frozen? ⟨p.b, a.off + p.s + len * i.size + j, none⟩ = false := fun j _ => hrow.2.2.1 _
                have hdead : ∀ b q, ρ b = some q → q.b = p.b → (h.put a.block .dead).get b = some .dead := by
                  intro b q hbq hqb
                  rw [AH.get_put _ _ _ _ (hw.key_lt hp)]
                  by_cases hb : b = a.block
                  · rw [if_pos hb]
                  · rw [if_neg hb]
                    rcases hw.inj b a.block q p hbq hp hqb hb with hd | hd
                    · exact hd
                    · rw [hg] at hd; cases hd
                have hlow := hw.low _ _ hp
                obtain ⟨s1, s2, s3, s4, s5⟩ := setCells_frame p.b news' (a.off + p.s + len * i.size) w
                obtain ⟨t1, t2⟩ := k1.turn (w' := w.setCells p.b (a.off + p.s + len * i.size) news') (B := p.b) hdead ⟨a.block, p, hp, rfl⟩ s1 s2 s3 s4 (fun b hb _ => s5 b hb)
                have hol : olds'.length = len * i.size := o2
                have hrr : RowRel ρ (w.setCells p.b (a.off + p.s + len * i.size) news') ⟨p.b, a.off + p.s, p.e⟩ (.rw (olds ++ news)) := by
                  refine ⟨fun j u hu => ?_, fun j hj => ?_, fun j => ?_, ?_⟩
                  · have hjl := (List.getElem?_eq_some_iff.1 hu).1
                    have hjl' : j < (olds' ++ news').length := by rw [← hlls.1]; exact hjl
                    refine ⟨(olds' ++ news')[j], ?_, hlls.2 j u _ hu (List.getElem?_eq_getElem hjl')⟩
                    show (w.setCells p.b (a.off + p.s + len * i.size) news').cell? ⟨p.b, j + (a.off + p.s), none⟩ = some (olds' ++ news')[j]
                    by_cases hjo : j < olds'.length
                    · rw [World.cell?_setCells_out p.b news' _ w _ (fun _ _ => by simp only; omega)]
                      have := o4 j olds'[j] (List.getElem?_eq_getElem hjo)
                      rw [Addr.add_off, Nat.add_comm] at this
                      rw [this, List.getElem_append_left hjo]
                    · have hjn : j - olds'.length < news'.length := by rw [List.length_append] at hjl'; omega
                      have := World.cell?_setCells_in p.b news' (a.off + p.s + len * i.size) w c1 (j - olds'.length) hjn
                      rw [show a.off + p.s + len * i.size + (j - olds'.length) = j + (a.off + p.s) by omega] at this
                      rw [this, List.getElem_append_right (by omega)]
                  · by_cases hin2 : a.off + p.s + len * i.size ≤ j ∧ j < a.off + p.s + len * i.size + news'.length
                    · have := World.cell?_setCells_in p.b news' (a.off + p.s + len * i.size) w c1 (j - (a.off + p.s + len * i.size)) (by omega)
                      rw [show a.off + p.s + len * i.size + (j - (a.off + p.s + len * i.size)) = j by omega] at this
                      rw [this]
                      rfl
                    · rw [World.cell?_setCells_out p.b news' _ w ⟨p.b, j, none⟩ (fun _ _ => by simp only; omega)]
                      exact hrow.2.1 j hj
                  · rw [World.frozen?_setCells]
                    exact hrow.2.2.1 j
                  · rw [hlls.1, List.length_append, hol, hnl]
                    show len * i.size + n * i.size + (a.off + p.s) ≤ p.e
                    omega
                obtain ⟨r1, r2⟩ := t1.revive (q := ⟨p.b, a.off + p.s, p.e⟩) (by rw [AH.next_put]; exact hl) hdead ⟨a.block, p, hp, rfl⟩ (olds ++ news) hrr
                rw [AH.next_put] at r1 r2
                refine ⟨_, _, _, run_append_room_src (P := P) w t u ty e i ht hi p.b (a.off + p.s) len cap' x' n news' hsrc hin c1 c2, r1, ?_, (k2.trans t2).trans r2⟩
                have hv := VRel.grown (ρ := ρ.with h.next ⟨p.b, a.off + p.s, p.e⟩) ⟨h.next, 0, some i.size⟩ ⟨p.b, a.off + p.s, p.e⟩ i.size (len + n) (len + n) cap' (Ren.with_same _ _ _) rfl hsz (Nat.le_refl _) hin (by
                  show 0 + (a.off + p.s) + cap' * i.size ≤ p.e
                  omega)
                simp only [Nat.zero_add] at hv
                exact hv
              · obtain ⟨ρ1, v', w1, a1, a2, a3, a4⟩ := anew (h.put a.block .dead) k1 (AH.next_put _ _ _) (by omega)
                exact ⟨ρ1, v', w1, a1, a2, a3, k2.trans a4⟩
            · simp at ha
          · simp at ha
    · simp at ha
end Go.Proofs.YtiffnkmbmenhfaaDoor.Run
/-! append, whatever the slice. -/
namespace Go.Proofs.YtiffnkmbmenhfaaDoor.Run
open Go Go.RowKit
set_option linter.unusedVariables false
set_option linter.unusedSimpArgs false

theorem append_sound {P : Program} {ρ : Ren} {h h1 : AH} {w : World} (hw : WRel ρ h w) {ts : Array TypeId} {ty : TypeId} {s s' x x' v : Value} (hs : VRel ρ s s') (hx : VRel ρ x x') (ha : aappend P ts s x h = some (v, h1)) :
    ∃ ρ1 v' w1, (Builtin.append_ ts ty #[s', x']).run P w = .ok v' w1 ∧ WRel ρ1 h1 w1 ∧ VRel ρ1 v v' ∧ Fr ρ h w ρ1 h1 w1 := by
  unfold aappend at ha
  split at ha
  · rename_i t u base len cap hts
    have hta : ts = #[t, u] := by
      apply Array.ext'
      simpa using hts
    subst hta
    cases he : elemFine P t with
    | none => rw [he] at ha; simp at ha
    | some q =>
      obtain ⟨e, size⟩ := q
      rw [he] at ha
      obtain ⟨ht, i, z, hi, hz, rfl, hby, hsz, hzs⟩ := elemFine_spec he
      simp only at ha
      cases hsc : srcCells P h i.size u x with
      | none => rw [hsc] at ha; simp at ha
      | some q =>
        obtain ⟨n, news⟩ := q
        rw [hsc] at ha
        simp only at ha
        split at ha
        · rename_i hc
          obtain ⟨news', n1, n2⟩ := src_rel hw hx hsc hc.2
          cases hs with
          | nilSlice =>
            unfold appendTo at ha
            split at ha
            · rename_i h0
              have hn : n = 0 := by omega
              subst hn
              simp only [Option.some.injEq, Prod.mk.injEq] at ha
              obtain ⟨rfl, rfl⟩ := ha
              have hnil : news' = [] := List.eq_nil_of_length_eq_zero (by rw [n2.newsLen, Nat.zero_mul])
              subst hnil
              refine ⟨ρ, .slice none 0 0, w, ?_, hw, .nilSlice, Fr.refl _ _ _⟩
              rcases n2.kind with ⟨e', hk⟩ | hk <;> simp [Builtin.append_, run_underlying ht, run_underlying hk, sizeOf, typeInfo, hi, n2.len, n2.cells]
            · rename_i h0
              split at ha
              · rename_i hl
                simp only [sliceCells, Nat.zero_mul, if_true, Option.some.injEq, Prod.mk.injEq, List.nil_append] at ha
                obtain ⟨rfl, rfl⟩ := ha
                have hge := grownCap_ge w (0 + n) 0 e
                obtain ⟨g1, g2⟩ := grow_new hw hl n1 (Builtin.zeroCells z.cells (grownCap w (0 + n) 0 e - (0 + n))) e
                have hfit : Builtin.nextslicecap (0 + n) 0 * i.bytes ≤ 281474976710656 := by
                  refine growslice_fits (by omega) ?_
                  calc (0 + n) * i.bytes ≤ 1000000 * 4096 := Nat.mul_le_mul (by omega) hby
                    _ ≤ _ := by decide
                refine ⟨_, _, _, run_append_grow_src (P := P) w t u ty e i z ht hi hz none 0 0 [] (run_firstCells_none w.drew i.size 0 0 0) x' n news' n2 (by omega) (by omega) hfit, g1, ?_, g2⟩
                refine .grown ⟨h.next, 0, some i.size⟩ ⟨w.heap.size, 0, (news'.toArray ++ Builtin.zeroCells z.cells (grownCap w (0 + n) 0 e - (0 + n))).size⟩ i.size _ _ _ (Ren.with_same _ _ _) rfl hsz (Nat.le_refl _) hge ?_
                simp only [Array.size_append, List.size_toArray, size_zeroCells, hzs, n2.newsLen, ← Nat.add_mul]
                have : n + (grownCap w (0 + n) 0 e - (0 + n)) = grownCap w (0 + n) 0 e := by omega
                rw [this]
                omega
              · simp at ha
          | slice a p len cap hp hsp hl =>
            exact appendTo_at hw ht hi hz hby hsz hzs hp hl (Nat.le_refl _) (fun _ => rfl) (fun q hq => by rw [hsp] at hq; cases hq) n1 n2 hc.1 ha
          | grown a p q len cap cap' hp hsp hq hl hcc hee =>
            exact appendTo_at hw ht hi hz hby hsz hzs hp hl hcc (fun hn => by rw [hsp] at hn; cases hn) (fun q' hq' => by rw [hsp] at hq'; injection hq' with hq'; subst hq'; exact ⟨hq, hee⟩) n1 n2 hc.1 ha
          | void a b o c hsp =>
            unfold appendTo at ha
            split at ha
            · rename_i h0
              have hn : n = 0 := by omega
              subst hn
              have hnil' : news' = [] := List.eq_nil_of_length_eq_zero (by rw [n2.newsLen, Nat.zero_mul])
              have hnil : news = [] := List.eq_nil_of_length_eq_zero (by rw [n1.1, hnil']; rfl)
              subst hnil hnil'
              simp only [setCells, Option.some.injEq, Prod.mk.injEq] at ha
              obtain ⟨rfl, rfl⟩ := ha
              refine ⟨ρ, _, _, run_append_room_src (P := P) w t u ty e i ht hi b o 0 c x' 0 [] n2 (Nat.zero_le _) (fun j hj => by simp at hj) (fun j hj => by simp at hj), hw, .void a b o c hsp, Fr.refl _ _ _⟩
            · split at ha
              · simp only [sliceCells, Nat.zero_mul, if_true, hsp] at ha
                split at ha
                · rw [if_neg (by omega)] at ha
                  simp at ha
                · simp at ha
              · simp at ha
        · simp at ha
  · simp at ha
end Go.Proofs.YtiffnkmbmenhfaaDoor.Run
/-! Operations: the generic ones. -/
namespace Go.Proofs.YtiffnkmbmenhfaaDoor.Run
open Go Go.RowKit
set_option linter.unusedVariables false
set_option linter.unusedSimpArgs false

/-- The operands of an operation, related. -/
def OpsRel (ρ : Ren) (o : Op) (ev ev' : Operand → Value) : Prop := ∀ x ∈ o.operands, VRel ρ (ev x) (ev' x)
theorem map_rel {ρ : Ren} {ev ev' : Operand → Value} (l : Array Operand) (h : ∀ x ∈ l, VRel ρ (ev x) (ev' x)) : AsRel ρ (l.map ev) (l.map ev') := by
  refine ⟨by simp, fun i u v hu hv => ?_⟩
  rw [Array.getElem?_map] at hu hv
  obtain ⟨x, hx, rfl⟩ := Option.map_eq_some_iff.1 hu
  rw [hx] at hv
  simp only [Option.map_some, Option.some.injEq] at hv
  subst hv
  exact h x (Array.mem_of_getElem? hx)
theorem parts_rel {ρ : Ren} {ev ev' : Operand → Value} (l : Array (Nat × Operand)) (h : ∀ x ∈ (l.toList.map (·.2)).toArray, VRel ρ (ev x) (ev' x)) :
    PartsRel ρ (l.map fun (i, x) => (i, ev x)).toList (l.map fun (i, x) => (i, ev' x)).toList := by
  refine ⟨by simp, fun i u v hu hv => ?_⟩
  rw [Array.getElem?_toList, Array.getElem?_map] at hu hv
  obtain ⟨x, hx, rfl⟩ := Option.map_eq_some_iff.1 hu
  rw [hx] at hv
  simp only [Option.map_some, Option.some.injEq] at hv
  subst hv
  refine ⟨rfl, h x.2 ?_⟩
  simp only [List.mem_toArray, List.mem_map]
  exact ⟨x, by simpa using Array.mem_of_getElem? hx, rfl⟩
/-- Keys of maps and ranged values are strings, no slice's empty rest is copied. -/
def StrOk (ev : Operand → Value) : Op → Prop
  | .lookup _ _ ix _ => ∃ s, ev ix = .string s
  | .mapUpdate _ _ k _ => ∃ s, ev k = .string s
  | .insert _ _ k _ => ∃ s, ev k = .string s
  | .range _ x => ∃ s, ev x = .string s
  | .call c => c.callee = .builtin .copy → ∀ x ∈ c.args, notVoid (ev x) = true
  | _ => True
theorem vrel_string {ρ : Ren} {s : ByteArray} {v : Value} (h : VRel ρ (.string s) v) : v = .string s := by cases h; rfl
theorem RR.ofValue {P : Program} {ρ : Ren} {f f' : Value} (hf : VRel ρ f f') {x x' : Array Value} (h : AsRel ρ x x') : RR P ρ DRel (Deferred.ofValue f x) (Deferred.ofValue f' x') := by
  cases hf with
  | func fn a b a' b' ha hb h1 h2 => exact RR.pure ⟨.fn fn _ _ ⟨hb, h2⟩, AsRel.append ⟨ha, h1⟩ h⟩
  | nilFunc => exact RR.pure ⟨.nil, h⟩
  | _ => exact RR.halt
theorem SR.op {P : Program} {ρ : Ren} {o : Oper} {ev ev' : Operand → Value} (hok : opOk P o.op = true) (h : OpsRel ρ o.op ev ev') (hst : StrOk ev o.op) : SR P ρ NR (execOp ev o) (execOp ev' o) := by
  unfold execOp
  cases ho : o.op with
  | alloc t =>
    rw [ho] at hok
    exact SR.v (SR.alloc hok)
  | box t x =>
    rw [ho] at h
    exact SR.v (SR.box t (h x (by simp [Op.operands])))
  | build t parts =>
    rw [ho] at hok h
    exact SR.v (SR.build hok (parts_rel parts h))
  | buildSlice t len parts =>
    rw [ho] at hok h
    exact SR.v (SR.buildSlice hok len (parts_rel parts h))
  | load t a =>
    rw [ho] at h
    exact SR.v (RR.loadAt t (h a (by simp [Op.operands]))).sr
  | store t a x =>
    rw [ho] at h
    exact SR.u (SR.storeAt t (h a (by simp [Op.operands])) (h x (by simp [Op.operands])))
  | makeInterface t x =>
    rw [ho] at h
    exact SR.v (RR.makeInterface t (h x (by simp [Op.operands]))).sr
  | makeFunc fn x y =>
    rw [ho] at h
    exact SR.v (RR.makeFunc fn (map_rel x fun z hz => h z (by simp [Op.operands, hz])) (map_rel y fun z hz => h z (by simp [Op.operands, hz]))).sr
  | makeMap t r =>
    rw [ho] at hok
    cases r with
    | none => exact SR.v (SR.makeMap t)
    | some r => simp [opOk] at hok
  | fieldAddr t x f =>
    rw [ho] at h
    exact SR.v (RR.fieldAt t (h x (by simp [Op.operands])) f).sr
  | field t x f =>
    rw [ho] at h
    exact SR.v (RR.field t (h x (by simp [Op.operands])) f).sr
  | indexAddr t x i =>
    rw [ho] at h
    exact SR.v (RR.indexAt t (h x (by simp [Op.operands])) (h i (by simp [Op.operands]))).sr
  | index t x i =>
    rw [ho] at h
    exact SR.v (RR.index t (h x (by simp [Op.operands])) (h i (by simp [Op.operands]))).sr
  | lookup t m i ok =>
    rw [ho] at hok h hst
    obtain ⟨s, hs⟩ := hst
    have hi := h i (by simp [Op.operands])
    rw [hs] at hi
    dsimp only
    rw [hs, vrel_string hi]
    exact SR.v (RR.lookup hok (h m (by simp [Op.operands])) s ok).sr
  | mapUpdate t m k x =>
    rw [ho] at hok h hst
    obtain ⟨s, hs⟩ := hst
    have hi := h k (by simp [Op.operands])
    rw [hs] at hi
    dsimp only
    rw [hs, vrel_string hi]
    exact SR.u (SR.mapUpdate t (h m (by simp [Op.operands])) s (h x (by simp [Op.operands])))
  | insert t m k x =>
    rw [ho] at hok h hst
    obtain ⟨s, hs⟩ := hst
    have hi := h k (by simp [Op.operands])
    rw [hs] at hi
    dsimp only
    rw [hs, vrel_string hi]
    exact SR.u (SR.mapUpdate t (h m (by simp [Op.operands])) s (h x (by simp [Op.operands])))
  | range t x =>
    rw [ho] at h hst
    obtain ⟨s, hs⟩ := hst
    have hi := h x (by simp [Op.operands])
    rw [hs] at hi
    dsimp only
    rw [hs, vrel_string hi]
    exact SR.v (SR.range t s)
  | next it b =>
    rw [ho] at hok h
    cases b with
    | true => exact SR.v (SR.next o.type (h it (by simp [Op.operands])))
    | false => simp [opOk] at hok
  | extract x i =>
    rw [ho] at h
    exact SR.v (RR.extract (h x (by simp [Op.operands])) i).sr
  | defer c =>
    rw [ho] at hok h
    cases hc : c.callee with
    | value f =>
      have hf := h f (by simp [Op.operands, Call.operands, hc])
      have hargs := map_rel c.args fun z hz => h z (by simp [Op.operands, Call.operands, hc, hz])
      dsimp only [resolve]
      rw [hc]
      dsimp only
      exact SR.bind (RR.ofValue hf hargs).sr fun ρ' d d' hle hd => SR.pure (.defer d d' hd)
    | _ => simp [opOk, hc] at hok
  | call c =>
    rw [ho] at hok h hst
    have hargs := map_rel c.args fun z hz => h z (by simp [Op.operands, Call.operands, hz])
    cases hc : c.callee with
    | builtin b =>
      simp only [opOk, hc] at hok
      dsimp only [resolve]
      rw [hc]
      simp only [pure_bind, invoke]
      cases b with
      | len =>
        have hsz : c.args.size = 1 := by simpa using hok
        obtain ⟨x, hx⟩ : ∃ x, c.args = #[x] := by
          obtain ⟨x, hx⟩ := List.length_eq_one_iff.1 (by simpa using hsz : c.args.toList.length = 1)
          exact ⟨x, Array.toList_inj.1 (by simpa using hx)⟩
        rw [show c.args.map ev = #[ev x] by rw [hx]; simp, show c.args.map ev' = #[ev' x] by rw [hx]; simp]
        exact SR.v (RR.len _ _ (h x (by simp [Op.operands, Call.operands, hx]))).sr
      | copy =>
        have hsz : c.args.size = 2 := by simpa using hok
        obtain ⟨x, y, hx⟩ : ∃ x y, c.args = #[x, y] := by
          match hl : c.args.toList, (by simpa using hsz : c.args.toList.length = 2) with
          | [x, y], _ => exact ⟨x, y, Array.toList_inj.1 (by simpa using hl)⟩
        have hnv := hst hc
        rw [show c.args.map ev = #[ev x, ev y] by rw [hx]; simp, show c.args.map ev' = #[ev' x, ev' y] by rw [hx]; simp]
        exact SR.v (SR.copy _ _ (h x (by simp [Op.operands, Call.operands, hx])) (h y (by simp [Op.operands, Call.operands, hx])) (hnv x (by simp [hx])) (hnv y (by simp [hx])))
      | _ => simp at hok
    | _ => simp [opOk, hc] at hok
  | _ => rw [ho] at hok; simp [opOk] at hok
end Go.Proofs.YtiffnkmbmenhfaaDoor.Run
