import Derived.Test.YtjemjpakgpdonaaA8
import Derived.Test.YtjemjpakgpdonaaA9
/-! The plain side of the partition's statements: lists of numbers, no memory. -/
namespace Go.Proofs.Ytjemjpakgpdonaa.PAll
open Go.RowKit Go.Proofs.YtjemjpakgpdonaaW.PrintWords Go.Proofs.YtjemjpakgpdonaaW.PrintLast Go.Proofs.YtjemjpakgpdonaaW.PrintMore
set_option linter.unusedVariables false
set_option linter.unusedSimpArgs false

/-! ### Rounds -/
theorem ev_unf {α : Type} {g : Nat → Option α} {r : α} (h : Ev (fun k => g (k + 1)) r) : Ev g r := Ev.step (fun _ => rfl) h
theorem ev_pos {α : Type} {c : Prop} [Decidable c] {A B : Nat → Option α} {r : α} (h : c) (k : Ev A r) : Ev (fun n => if c then A n else B n) r := by
  simp only [if_pos h]; exact k
theorem ev_neg {α : Type} {c : Prop} [Decidable c] {A B : Nat → Option α} {r : α} (h : ¬ c) (k : Ev B r) : Ev (fun n => if c then A n else B n) r := by
  simp only [if_neg h]; exact k
theorem ev_some {α : Type} (r : α) : Ev (fun _ => some r) r := Ev.now r
theorem ev_eq {α : Type} {g : Nat → Option α} {r q : α} (h : Ev g r) (e : r = q) : Ev g q := e ▸ h
theorem wrap_up {i : Int} (h0 : 0 ≤ i) (h1 : i < 140737488355328) : wrap64 (i + 1) = i + 1 := by unfold wrap64; omega

/-! ### Lists -/
theorem rd_set {l : List Int} {i j v : Int} (hi : 0 ≤ i) (hl : i < l.length) (hj : 0 ≤ j) : rd (l.set i.toNat v) j = if j = i then v else rd l j := by
  unfold rd
  by_cases h : j = i
  · subst h
    rw [if_pos rfl]
    rw [List.getD_eq_getElem?_getD, List.getElem?_set_self (by omega)]; rfl
  · rw [if_neg h, List.getD_eq_getElem?_getD, List.getElem?_set_ne (by omega), ← List.getD_eq_getElem?_getD]
theorem rd_append {l m : List Int} {j : Int} (hj : 0 ≤ j) : rd (l ++ m) j = if j < l.length then rd l j else rd m (j - l.length) := by
  unfold rd
  by_cases h : j < l.length
  · rw [if_pos h, List.getD_eq_getElem?_getD, List.getElem?_append_left (by omega), ← List.getD_eq_getElem?_getD]
  · rw [if_neg h, List.getD_eq_getElem?_getD, List.getElem?_append_right (by omega), List.getD_eq_getElem?_getD]
    congr 2; omega
theorem rd_ext {l m : List Int} (hl : l.length = m.length) (h : ∀ i : Int, 0 ≤ i → i < l.length → rd l i = rd m i) : l = m := by
  apply List.ext_getElem hl
  intro n h1 h2
  have := h n (by omega) (by omega)
  simpa [rd, List.getD_eq_getElem?_getD, h1, h2] using this

/-! ### Check -/
/-- What Check says from member i on, n members being left. -/
def chkGo (p : List Int) : Nat → Int → Int
  | 0, _ => 0
  | n + 1, i => if rd p i < 0 ∨ rd p i > i then 4 else if rd p (rd p i) = rd p i then chkGo p n (i + 1) else 1
def chk (p : List Int) : Int := if (p.length : Int) > 8192 then 3 else chkGo p p.length 0
structure Valid (p : List Int) : Prop where
  le : p.length ≤ 8192
  lo : ∀ i : Int, 0 ≤ i → i < p.length → 0 ≤ rd p i
  hi : ∀ i : Int, 0 ≤ i → i < p.length → rd p i ≤ i
  id : ∀ i : Int, 0 ≤ i → i < p.length → rd p (rd p i) = rd p i
theorem chkGo_iff (p : List Int) (n : Nat) : ∀ i : Int, 0 ≤ i → i + n = p.length → (chkGo p n i = 0 ↔ ∀ j : Int, i ≤ j → j < p.length → 0 ≤ rd p j ∧ rd p j ≤ j ∧ rd p (rd p j) = rd p j) := by
  induction n with
  | zero => intro i h0 h1; simp only [chkGo]; exact ⟨fun _ j _ _ => by omega, fun _ => by trivial⟩
  | succ n ih =>
    intro i h0 h1
    simp only [chkGo]
    by_cases c : rd p i < 0 ∨ rd p i > i
    · rw [if_pos c]
      refine ⟨fun h => by omega, fun h => ?_⟩
      have := h i (Int.le_refl _) (by omega)
      omega
    · rw [if_neg c]
      by_cases d : rd p (rd p i) = rd p i
      · rw [if_pos d, ih (i + 1) (by omega) (by omega)]
        refine ⟨fun h j hj hl => ?_, fun h j hj hl => h j (by omega) hl⟩
        by_cases e : j = i
        · subst e; exact ⟨by omega, by omega, d⟩
        · exact h j (by omega) hl
      · rw [if_neg d]
        refine ⟨fun h => by omega, fun h => absurd (h i (Int.le_refl _) (by omega)).2.2 d⟩
theorem chk_valid {p : List Int} : chk p = 0 ↔ Valid p := by
  unfold chk
  by_cases c : (p.length : Int) > 8192
  · rw [if_pos c]
    exact ⟨fun h => by omega, fun h => by have := h.le; omega⟩
  · rw [if_neg c, chkGo_iff p p.length 0 (by omega) (by omega)]
    exact ⟨fun h => ⟨by omega, fun i h0 h1 => (h i h0 h1).1, fun i h0 h1 => (h i h0 h1).2.1, fun i h0 h1 => (h i h0 h1).2.2⟩, fun h j h0 h1 => ⟨h.lo j h0 h1, h.hi j h0 h1, h.id j h0 h1⟩⟩
theorem chkGo_range (p : List Int) (n : Nat) : ∀ i, 0 ≤ chkGo p n i ∧ chkGo p n i ≤ 4 := by
  induction n with
  | zero => intro i; simp [chkGo]
  | succ n ih =>
    intro i
    simp only [chkGo]
    split
    · omega
    · split
      · exact ih _
      · omega
theorem check_go (p : List Int) (hp : p.length ≤ 8192) (n : Nat) : ∀ i : Int, 0 ≤ i → i + n = p.length → Ev (fun k => partition_Check.l0 k p p (p.length : Int) i) (chkGo p n i) := by
  induction n with
  | zero =>
    intro i h0 h1
    refine ev_unf ?_
    simp only [partition_Check.l0]
    exact ev_neg (by omega) (ev_some _)
  | succ n ih =>
    intro i h0 h1
    refine ev_unf ?_
    simp only [partition_Check.l0, chkGo]
    refine ev_pos (by omega) (ev_pos h0 (ev_pos (by omega) ?_))
    by_cases c1 : rd p i < 0
    · refine ev_pos c1 (ev_unf ?_)
      simp only [partition_Check.j1]
      rw [if_pos (Or.inl c1)]
      exact ev_pos (by trivial) (ev_some _)
    · refine ev_neg c1 (ev_unf ?_)
      simp only [partition_Check.j1]
      by_cases c2 : rd p i > i
      · rw [if_pos (Or.inr c2)]
        exact ev_pos (by simpa using c2) (ev_some _)
      · rw [if_neg (by omega)]
        refine ev_neg (by simpa using c2) (ev_pos (by omega) (ev_pos (by omega) ?_))
        by_cases d : rd p (rd p i) = rd p i
        · rw [if_pos d]
          refine ev_pos d ?_
          rw [wrap_up h0 (by omega)]
          exact ih _ (by omega) (by omega)
        · rw [if_neg d]
          exact ev_neg d (ev_some _)
theorem check_ev (p : List Int) : Ev (fun k => partition_Check.f k p) (chk p) := by
  simp only [partition_Check.f, chk]
  by_cases c : (p.length : Int) > 8192
  · rw [if_pos c]; exact ev_pos c (ev_some _)
  · rw [if_neg c]; exact ev_neg c (check_go p (by omega) _ 0 (by omega) (by omega))
theorem rcheck_go (p : List Int) (hp : p.length ≤ 8192) (n : Nat) : ∀ i : Int, 0 ≤ i → i + n = p.length → Ev (fun k => dataflowref02_Check.l0 k p i) (chkGo p n i) := by
  induction n with
  | zero =>
    intro i h0 h1
    refine ev_unf ?_
    simp only [dataflowref02_Check.l0]
    exact ev_neg (by omega) (ev_some _)
  | succ n ih =>
    intro i h0 h1
    refine ev_unf ?_
    simp only [dataflowref02_Check.l0, chkGo]
    refine ev_pos (by omega) (ev_pos h0 ?_)
    by_cases c1 : rd p i < 0
    · refine ev_pos c1 (ev_unf ?_)
      simp only [dataflowref02_Check.j1]
      rw [if_pos (Or.inl c1)]
      exact ev_pos (by trivial) (ev_some _)
    · refine ev_neg c1 (ev_unf ?_)
      simp only [dataflowref02_Check.j1]
      by_cases c2 : rd p i > i
      · rw [if_pos (Or.inr c2)]
        exact ev_pos (by simpa using c2) (ev_some _)
      · rw [if_neg (by omega)]
        refine ev_neg (by simpa using c2) (ev_pos h0 (ev_pos (by omega) (ev_pos (by omega) (ev_pos (by omega) ?_))))
        by_cases d : rd p (rd p i) = rd p i
        · rw [if_pos d]
          refine ev_pos d ?_
          rw [wrap_up h0 (by omega)]
          exact ih _ (by omega) (by omega)
        · rw [if_neg d]
          exact ev_neg d (ev_some _)
theorem rcheck_ev (p : List Int) : Ev (fun k => dataflowref02_Check.f k p) (chk p) := by
  simp only [dataflowref02_Check.f, chk]
  by_cases c : (p.length : Int) > 8192
  · rw [if_pos c]; exact ev_pos c (ev_some _)
  · rw [if_neg c]; exact ev_neg c (rcheck_go p (by omega) _ 0 (by omega) (by omega))

/-! ### Same, Finer -/
def sam (p : List Int) (x y : Int) : Bool := decide (chk p = 0) && (decide (0 ≤ x ∧ x < p.length) && (decide (0 ≤ y ∧ y < p.length) && (rd p x == rd p y)))
theorem in_eq (l : List Int) (x : Int) : partition_in.f l x = some (decide (0 ≤ x ∧ x < l.length)) := by
  unfold partition_in.f
  by_cases h : x ≥ 0
  · rw [if_pos h]; congr 1; rw [decide_eq_decide]; omega
  · rw [if_neg h]; congr 1; symm; rw [decide_eq_false_iff_not]; omega
theorem same_ev (p : List Int) (x y : Int) : Ev (fun k => partition_Same.f k p x y) (sam p x y) := by
  simp only [partition_Same.f, in_eq, Option.bind_some]
  refine Ev.bind (check_ev p) ?_
  by_cases c : chk p = 0
  · refine ev_pos c ?_
    by_cases cx : 0 ≤ x ∧ x < p.length
    · refine ev_pos (by simpa using cx) ?_
      by_cases cy : 0 ≤ y ∧ y < p.length
      · refine ev_pos (by simpa using cy) (ev_pos cx.1 (ev_pos cx.2 (ev_pos cy.1 (ev_pos cy.2 ?_))))
        exact ev_eq (ev_some _) (by simp [sam, c, cx, cy])
      · exact ev_neg (by simpa using cy) (ev_eq (ev_some _) (by simp [sam, cy]))
    · exact ev_neg (by simpa using cx) (ev_eq (ev_some _) (by simp [sam, cx]))
  · exact ev_neg c (ev_eq (ev_some _) (by simp [sam, c]))
theorem rsame_ev (p : List Int) (x y : Int) : Ev (fun k => dataflowref02_Same.f k p x y) (sam p x y) := by
  simp only [dataflowref02_Same.f]
  refine Ev.bind (rcheck_ev p) ?_
  by_cases c : chk p = 0
  · refine ev_pos c ?_
    by_cases c1 : x < 0
    · exact ev_pos c1 (ev_eq (ev_some _) (by simp [sam]; intros; omega))
    refine ev_neg c1 ?_
    by_cases c2 : x ≥ p.length
    · exact ev_pos c2 (ev_eq (ev_some _) (by simp [sam]; intros; omega))
    refine ev_neg c2 ?_
    by_cases c3 : y < 0
    · exact ev_pos c3 (ev_eq (ev_some _) (by simp [sam]; intros; omega))
    refine ev_neg c3 ?_
    by_cases c4 : y ≥ p.length
    · exact ev_pos c4 (ev_eq (ev_some _) (by simp [sam]; intros; omega))
    refine ev_neg c4 (ev_pos (by omega) (ev_pos (by omega) (ev_pos (by omega) (ev_pos (by omega) ?_))))
    refine ev_eq (ev_some _) ?_
    have e1 : 0 ≤ x ∧ x < p.length := by omega
    have e2 : 0 ≤ y ∧ y < p.length := by omega
    simp [sam, c, e1, e2]
  · exact ev_neg c (ev_eq (ev_some _) (by simp [sam, c]))
theorem sam_iff {p : List Int} {x y : Int} : sam p x y = true ↔ Valid p ∧ (0 ≤ x ∧ x < p.length) ∧ (0 ≤ y ∧ y < p.length) ∧ rd p x = rd p y := by
  simp only [sam, Bool.and_eq_true, decide_eq_true_eq, beq_iff_eq, chk_valid]

/-- From member i on each class of a lies in one of b. -/
def finGo (a b : List Int) : Nat → Int → Bool
  | 0, _ => true
  | n + 1, i => if rd b (rd a i) = rd b i then finGo a b n (i + 1) else false
theorem finGo_iff (a b : List Int) (n : Nat) : ∀ i : Int, 0 ≤ i → i + n = a.length → (finGo a b n i = true ↔ ∀ j : Int, i ≤ j → j < a.length → rd b (rd a j) = rd b j) := by
  induction n with
  | zero => intro i h0 h1; simp only [finGo]; exact ⟨fun _ j _ _ => by omega, fun _ => trivial⟩
  | succ n ih =>
    intro i h0 h1
    simp only [finGo]
    by_cases d : rd b (rd a i) = rd b i
    · rw [if_pos d, ih (i + 1) (by omega) (by omega)]
      refine ⟨fun h j hj hl => ?_, fun h j hj hl => h j (by omega) hl⟩
      by_cases e : j = i
      · subst e; exact d
      · exact h j (by omega) hl
    · rw [if_neg d]
      exact ⟨fun h => by simp at h, fun h => absurd (h i (Int.le_refl _) (by omega)) d⟩
def fin (a b : List Int) : Bool := decide (chk a = 0) && (decide (chk b = 0) && (decide (a.length = b.length) && finGo a b a.length 0))
theorem fin_iff {a b : List Int} : fin a b = true ↔ Valid a ∧ Valid b ∧ a.length = b.length ∧ ∀ j : Int, 0 ≤ j → j < a.length → rd b (rd a j) = rd b j := by
  simp only [fin, Bool.and_eq_true, decide_eq_true_eq, chk_valid, finGo_iff a b a.length 0 (by omega) (by omega)]
theorem finer_go (a b : List Int) (ha : Valid a) (hl : a.length = b.length) (n : Nat) : ∀ i : Int, 0 ≤ i → i + n = a.length → Ev (fun k => partition_Finer.l0 k b a (a.length : Int) i) (finGo a b n i) := by
  induction n with
  | zero =>
    intro i h0 h1
    refine ev_unf ?_
    simp only [partition_Finer.l0]
    exact ev_neg (by omega) (ev_some _)
  | succ n ih =>
    intro i h0 h1
    have := ha.lo i h0 (by omega)
    have := ha.hi i h0 (by omega)
    have := ha.le
    refine ev_unf ?_
    simp only [partition_Finer.l0, finGo]
    refine ev_pos (by omega) (ev_pos h0 (ev_pos (by omega) (ev_pos (by omega) (ev_pos (by omega) (ev_pos (by omega) ?_)))))
    by_cases d : rd b (rd a i) = rd b i
    · rw [if_pos d]
      refine ev_pos d ?_
      rw [wrap_up h0 (by omega)]
      exact ih _ (by omega) (by omega)
    · rw [if_neg d]
      exact ev_neg d (ev_some _)
theorem finer_ev (a b : List Int) : Ev (fun k => partition_Finer.f k a b) (fin a b) := by
  simp only [partition_Finer.f]
  refine Ev.bind (check_ev a) ?_
  by_cases c : chk a = 0
  · refine ev_pos c (Ev.bind (check_ev b) ?_)
    by_cases d : chk b = 0
    · refine ev_pos d (ev_unf ?_)
      simp only [partition_Finer.j0]
      by_cases e : a.length = b.length
      · refine ev_neg (by simp [e]) (ev_eq (finer_go a b (chk_valid.1 c) e a.length 0 (by omega) (by omega)) (by simp [fin, c, d, e]))
      · exact ev_pos (by simp; omega) (ev_eq (ev_some _) (by simp [fin, e]))
    · refine ev_neg d (ev_unf ?_)
      simp only [partition_Finer.j0]
      exact ev_pos (by trivial) (ev_eq (ev_some _) (by simp [fin, d]))
  · refine ev_neg c (ev_unf ?_)
    simp only [partition_Finer.j0]
    exact ev_pos (by trivial) (ev_eq (ev_some _) (by simp [fin, c]))
end Go.Proofs.Ytjemjpakgpdonaa.PAll
