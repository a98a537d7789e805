import Derived.Test.YtjemjpakgpdonaaB1
/-! The plain side of New, Of, Join and Equal of partitions: the program's forest and the reference's lists come to one list. -/
namespace Go.Proofs.Ytjemjpakgpdonaa.PAll
open Go.RowKit Go.Proofs.YtjemjpakgpdonaaW.PrintWords Go.Proofs.YtjemjpakgpdonaaW.PrintLast Go.Proofs.YtjemjpakgpdonaaW.PrintMore
set_option linter.unusedVariables false
set_option linter.unusedSimpArgs false

/-! ### New -/
def idl (n : Nat) : List Int := (List.range n).map fun i : Nat => (i : Int)
theorem idl_length (n : Nat) : (idl n).length = n := by simp [idl]
theorem rd_idl {n : Nat} {i : Int} (h0 : 0 ≤ i) (h1 : i < n) : rd (idl n) i = i := by
  unfold rd idl
  rw [List.getD_eq_getElem?_getD, List.getElem?_map, List.getElem?_range (by omega)]
  simp; omega
theorem idl_succ (n : Nat) : idl (n + 1) = idl n ++ [(n : Int)] := by simp [idl, List.range_succ]
theorem new_go (n : Nat) (hn : n ≤ 8192) (d : Nat) : ∀ (l : List Int) (i : Int), l.length = n → 0 ≤ i → i + d = n → (∀ j : Int, 0 ≤ j → j < i → rd l j = j) → Ev (fun k => partition_New.l0 k l (n : Int) i) (idl n, 0) := by
  induction d with
  | zero =>
    intro l i hl h0 h1 h
    refine ev_unf ?_
    simp only [partition_New.l0]
    refine ev_neg (by omega) (ev_eq (ev_some _) ?_)
    congr 1
    exact rd_ext (by rw [hl, idl_length]) fun j j0 j1 => by rw [h j j0 (by omega), rd_idl j0 (by omega)]
  | succ d ih =>
    intro l i hl h0 h1 h
    refine ev_unf ?_
    simp only [partition_New.l0]
    refine ev_pos (by omega) (ev_pos h0 (ev_pos (by omega) ?_))
    rw [wrap_up h0 (by omega)]
    refine ih _ (i + 1) (by simp [hl]) (by omega) (by omega) fun j j0 j1 => ?_
    rw [rd_set h0 (by omega) j0]
    by_cases e : j = i
    · rw [if_pos e, e]
    · rw [if_neg e]; exact h j j0 (by omega)
def newSpec (n : Int) : List Int × Int := if n < 0 ∨ n > 8192 then ([], 4) else (idl n.toNat, 0)
theorem new_ev (n : Int) : Ev (fun k => partition_New.f k n) (newSpec n) := by
  simp only [partition_New.f, newSpec]
  by_cases c : n < 0
  · rw [if_pos (Or.inl c)]
    refine ev_pos c (ev_unf ?_)
    simp only [partition_New.j0]
    exact ev_pos (by trivial) (ev_some _)
  refine ev_neg c (ev_unf ?_)
  simp only [partition_New.j0]
  by_cases d : n > 8192
  · rw [if_pos (Or.inr d)]
    exact ev_pos (by simpa using d) (ev_some _)
  · rw [if_neg (by omega)]
    refine ev_neg (by simpa using d) (ev_pos (by omega) (ev_pos (by omega) ?_))
    simp only [Option.bind_some, List.length_replicate]
    exact new_go n.toNat (by omega) n.toNat _ 0 (by simp) (by omega) (by omega) (fun j _ _ => by omega)
theorem rnew_go (n : Int) (hn : n ≤ 8192) (d : Nat) : ∀ (i : Nat), (i : Int) + d = n → Ev (fun k => dataflowref02_New.l0 k n (idl i) i) (idl n.toNat, 0) := by
  induction d with
  | zero =>
    intro i h1
    refine ev_unf ?_
    simp only [dataflowref02_New.l0]
    refine ev_neg (by omega) (ev_eq (ev_some _) ?_)
    congr 2; omega
  | succ d ih =>
    intro i h1
    refine ev_unf ?_
    simp only [dataflowref02_New.l0]
    refine ev_pos (by omega) (ev_pos (by rw [idl_length]; omega) ?_)
    rw [wrap_up (by omega) (by omega), ← idl_succ]
    exact ih (i + 1) (by omega)
theorem rnew_ev (n : Int) : Ev (fun k => dataflowref02_New.f k n) (newSpec n) := by
  simp only [dataflowref02_New.f, newSpec]
  by_cases c : n < 0
  · rw [if_pos (Or.inl c)]
    refine ev_pos c (ev_unf ?_)
    simp only [dataflowref02_New.j0]
    exact ev_pos (by trivial) (ev_some _)
  refine ev_neg c (ev_unf ?_)
  simp only [dataflowref02_New.j0]
  by_cases d : n > 8192
  · rw [if_pos (Or.inr d)]
    exact ev_pos (by simpa using d) (ev_some _)
  · rw [if_neg (by omega)]
    exact ev_neg (by simpa using d) (show Ev (fun k => dataflowref02_New.l0 k n (idl 0) ((0 : Nat) : Int)) (idl n.toNat, 0) from rnew_go n (by omega) n.toNat 0 (by omega))

/-! ### Equal -/
theorem requal_go (a b : List Int) (hl : a.length = b.length) (ha : a.length ≤ 140737488355327) (d : Nat) : ∀ i : Int, 0 ≤ i → i + d = a.length → (∀ j : Int, 0 ≤ j → j < i → rd a j = rd b j) → Ev (fun k => dataflowref02_Equal.l0 k a b i) (decide (a = b)) := by
  induction d with
  | zero =>
    intro i h0 h1 h
    refine ev_unf ?_
    simp only [dataflowref02_Equal.l0]
    refine ev_neg (by omega) (ev_eq (ev_some _) ?_)
    symm; rw [decide_eq_true_eq]
    exact rd_ext hl fun j j0 j1 => h j j0 (by omega)
  | succ d ih =>
    intro i h0 h1 h
    refine ev_unf ?_
    simp only [dataflowref02_Equal.l0]
    refine ev_pos (by omega) (ev_pos h0 (ev_pos (by omega) ?_))
    by_cases e : rd a i = rd b i
    · refine ev_pos e ?_
      rw [wrap_up h0 (by omega)]
      refine ih _ (by omega) (by omega) fun j j0 j1 => ?_
      by_cases q : j = i
      · rw [q]; exact e
      · exact h j j0 (by omega)
    · refine ev_neg e (ev_eq (ev_some _) ?_)
      symm; rw [decide_eq_false_iff_not]
      exact fun q => e (by rw [q])
theorem requal_ev (a b : List Int) (ha : a.length ≤ 140737488355327) : Ev (fun k => dataflowref02_Equal.f k a b) (decide (a = b)) := by
  simp only [dataflowref02_Equal.f]
  by_cases c : (a.length : Int) = (b.length : Int)
  · exact ev_pos c (requal_go a b (by omega) ha a.length 0 (by omega) (by omega) fun j _ _ => by omega)
  · refine ev_neg c (ev_eq (ev_some _) ?_)
    symm; rw [decide_eq_false_iff_not]
    exact fun q => c (by rw [q])

/-! ### The forest -/
/-- The forest up has the roots P. -/
structure Inv (up P : List Int) : Prop where
  len : up.length = P.length
  lo : ∀ i : Int, 0 ≤ i → i < up.length → 0 ≤ rd up i
  hi : ∀ i : Int, 0 ≤ i → i < up.length → rd up i ≤ i
  st : ∀ i : Int, 0 ≤ i → i < up.length → rd P (rd up i) = rd P i
  rt : ∀ i : Int, 0 ≤ i → i < up.length → rd up i = i → rd P i = i
theorem Inv.root {up P : List Int} (h : Inv up P) (n : Nat) : ∀ i : Int, 0 ≤ i → i ≤ n → i < up.length → 0 ≤ rd P i ∧ rd P i ≤ i ∧ rd up (rd P i) = rd P i ∧ rd P (rd P i) = rd P i := by
  induction n with
  | zero =>
    intro i h0 h1 h2
    have a := h.lo i h0 h2
    have b := h.hi i h0 h2
    have e : rd up i = i := by omega
    have f := h.rt i h0 h2 e
    rw [f]
    exact ⟨h0, Int.le_refl _, e, f⟩
  | succ n ih =>
    intro i h0 h1 h2
    by_cases e : rd up i = i
    · have f := h.rt i h0 h2 e
      rw [f]
      exact ⟨h0, Int.le_refl _, e, f⟩
    · have a := h.lo i h0 h2
      have b := h.hi i h0 h2
      have := ih (rd up i) a (by omega) (by omega)
      rw [h.st i h0 h2] at this
      exact ⟨this.1, by omega, this.2.2⟩
theorem Inv.at_ {up P : List Int} (h : Inv up P) {i : Int} (h0 : 0 ≤ i) (h1 : i < up.length) : 0 ≤ rd P i ∧ rd P i ≤ i ∧ rd up (rd P i) = rd P i ∧ rd P (rd P i) = rd P i := h.root i.toNat i h0 (by omega) h1
theorem Inv.valid {up P : List Int} (h : Inv up P) (hl : up.length ≤ 8192) : Valid P :=
  ⟨by rw [← h.len]; exact hl, fun i h0 h1 => (h.at_ h0 (by rw [h.len]; exact h1)).1, fun i h0 h1 => (h.at_ h0 (by rw [h.len]; exact h1)).2.1, fun i h0 h1 => (h.at_ h0 (by rw [h.len]; exact h1)).2.2.2⟩
theorem Inv.refl_ {P : List Int} (h : Valid P) : Inv P P := ⟨rfl, h.lo, h.hi, h.id, fun _ _ _ e => e⟩
/-- A member's new parent may be any member of its class that is not above it, if it is the root or the member was none. -/
theorem Inv.set_ {up P : List Int} (h : Inv up P) {x v : Int} (h0 : 0 ≤ x) (h1 : x < up.length) (v0 : 0 ≤ v) (v1 : v ≤ x) (hv : rd P v = rd P x) (hr : v = x → rd P x = x) : Inv (up.set x.toNat v) P where
  len := by rw [List.length_set]; exact h.len
  lo i i0 i1 := by
    rw [List.length_set] at i1
    rw [rd_set h0 h1 i0]; split
    · exact v0
    · exact h.lo i i0 i1
  hi i i0 i1 := by
    rw [List.length_set] at i1
    rw [rd_set h0 h1 i0]; split
    · rename_i e; rw [e]; exact v1
    · exact h.hi i i0 i1
  st i i0 i1 := by
    rw [List.length_set] at i1
    rw [rd_set h0 h1 i0]; split
    · rename_i e; rw [e]; exact hv
    · exact h.st i i0 i1
  rt i i0 i1 := by
    rw [List.length_set] at i1
    rw [rd_set h0 h1 i0]; split
    · rename_i e; intro q; rw [e] at q ⊢; exact hr q
    · exact h.rt i i0 i1
theorem root_ev (P : List Int) (n : Nat) : ∀ (up : List Int) (x : Int), Inv up P → 0 ≤ x → x ≤ n → x < up.length →
    ∃ up', Ev (fun k => partition_root.l0 k up x) (rd P x, up') ∧ Inv up' P ∧ up'.length = up.length ∧ ∀ j : Int, 0 ≤ j → j < up.length → rd up j = rd P j → rd up' j = rd P j := by
  induction n with
  | zero =>
    intro up x h h0 h1 h2
    have a := h.lo x h0 h2
    have b := h.hi x h0 h2
    have e : rd up x = x := by omega
    refine ⟨up, ?_, h, rfl, fun _ _ _ q => q⟩
    refine ev_unf ?_
    simp only [partition_root.l0]
    exact ev_pos h0 (ev_pos h2 (ev_pos e (ev_eq (ev_some _) (by rw [h.rt x h0 h2 e]))))
  | succ n ih =>
    intro up x h h0 h1 h2
    have a := h.lo x h0 h2
    have b := h.hi x h0 h2
    by_cases e : rd up x = x
    · refine ⟨up, ?_, h, rfl, fun _ _ _ q => q⟩
      refine ev_unf ?_
      simp only [partition_root.l0]
      exact ev_pos h0 (ev_pos h2 (ev_pos e (ev_eq (ev_some _) (by rw [h.rt x h0 h2 e]))))
    · have c := h.lo (rd up x) a (by omega)
      have d := h.hi (rd up x) a (by omega)
      have hs : Inv (up.set x.toNat (rd up (rd up x))) P := h.set_ h0 h2 c (by omega) (by rw [h.st _ a (by omega), h.st x h0 h2]) (fun q => by omega)
      have hx : rd (up.set x.toNat (rd up (rd up x))) x = rd up (rd up x) := by rw [rd_set h0 h2 h0, if_pos rfl]
      obtain ⟨up', hev, hi', hl', hk⟩ := ih (up.set x.toNat (rd up (rd up x))) (rd up (rd up x)) hs c (by omega) (by rw [List.length_set]; omega)
      refine ⟨up', ?_, hi', by rw [hl', List.length_set], fun j j0 j1 q => ?_⟩
      · refine ev_unf ?_
        simp only [partition_root.l0]
        refine ev_pos h0 (ev_pos h2 (ev_neg e (ev_pos a (ev_pos (by omega) ?_))))
        simp only [Option.bind_some, hx]
        exact ev_eq hev (by rw [h.st _ a (by omega), h.st x h0 h2])
      · refine hk j j0 (by rw [List.length_set]; exact j1) ?_
        rw [rd_set h0 h2 j0]
        split
        · rename_i e2
          rw [e2] at q ⊢
          rw [q]
          exact (h.at_ h0 h2).2.2.1
        · exact q

/-! ### Joining -/
def jn (P : List Int) (x y : Int) : List Int := P.map fun c => if c = mx (rd P x) (rd P y) then mn (rd P x) (rd P y) else c
theorem jn_length (P : List Int) (x y : Int) : (jn P x y).length = P.length := by simp [jn]
theorem rd_jn (P : List Int) (x y : Int) {i : Int} (h0 : 0 ≤ i) (h1 : i < P.length) : rd (jn P x y) i = if rd P i = mx (rd P x) (rd P y) then mn (rd P x) (rd P y) else rd P i := by
  unfold jn
  generalize mx (rd P x) (rd P y) = b
  generalize mn (rd P x) (rd P y) = a
  unfold rd
  have h2 : i.toNat < P.length := by omega
  rw [List.getD_eq_getElem?_getD, List.getElem?_map, List.getD_eq_getElem?_getD, List.getElem?_eq_getElem h2]
  rfl
theorem jn_same {P : List Int} {x y : Int} (h : rd P x = rd P y) : jn P x y = P := by
  refine rd_ext (jn_length _ _ _) fun i h0 h1 => ?_
  rw [jn_length] at h1
  rw [rd_jn P x y h0 h1, h]
  have : mx (rd P y) (rd P y) = mn (rd P y) (rd P y) := by unfold mx mn; simp
  split
  · rename_i e; rw [e, this]
  · rfl
/-- The two roots are joined in the forest. -/
theorem Inv.join {up P : List Int} (h : Inv up P) {x y : Int} (x0 : 0 ≤ x) (x1 : x < up.length) (y0 : 0 ≤ y) (y1 : y < up.length) : Inv (up.set (mx (rd P x) (rd P y)).toNat (mn (rd P x) (rd P y))) (jn P x y) := by
  obtain ⟨a0, a1, a2, a3⟩ := h.at_ x0 x1
  obtain ⟨b0, b1, b2, b3⟩ := h.at_ y0 y1
  have hM : mx (rd P x) (rd P y) = rd P x ∧ mn (rd P x) (rd P y) = rd P y ∨ mx (rd P x) (rd P y) = rd P y ∧ mn (rd P x) (rd P y) = rd P x := by unfold mx mn; omega
  have hle : mn (rd P x) (rd P y) ≤ mx (rd P x) (rd P y) := by unfold mx mn; omega
  have hj := fun (i : Int) (h0 : 0 ≤ i) (h1 : i < P.length) => rd_jn P x y h0 h1
  generalize mx (rd P x) (rd P y) = M at *
  generalize mn (rd P x) (rd P y) = m at *
  have hm : 0 ≤ m ∧ M < up.length ∧ rd P m = m ∧ rd P M = M ∧ rd up M = M := by
    rcases hM with ⟨rfl, rfl⟩ | ⟨rfl, rfl⟩
    · exact ⟨b0, by omega, b3, a3, a2⟩
    · exact ⟨a0, by omega, a3, b3, b2⟩
  obtain ⟨m0, M1, mm, MM, uM⟩ := hm
  have hl := h.len
  have lo := h.lo
  have hi := h.hi
  have st := h.st
  have rt := h.rt
  refine ⟨by rw [List.length_set, jn_length]; exact hl, fun i i0 i1 => ?_, fun i i0 i1 => ?_, fun i i0 i1 => ?_, fun i i0 i1 => ?_⟩
  all_goals rw [List.length_set] at i1
  all_goals rw [rd_set (by omega) M1 i0]
  · split
    · exact m0
    · exact lo i i0 i1
  · split
    · omega
    · exact hi i i0 i1
  · have q0 := lo i i0 i1
    have q1 := hi i i0 i1
    split
    · rename_i e
      rw [hj m m0 (by omega), hj i i0 (by omega), e, mm, MM, if_pos rfl]
      split <;> rfl
    · rw [hj _ q0 (by omega), hj i i0 (by omega), st i i0 i1]
  · split
    · rename_i e
      intro q
      rw [hj i i0 (by omega), e, MM, if_pos rfl]
      omega
    · rename_i e
      intro q
      have := rt i i0 i1 q
      rw [hj i i0 (by omega), this, if_neg e]

/-! ### Of -/
def jns (P : List Int) (l : List S35) : List Int := l.foldl (fun P d => jn P d.f0 d.f1) P
def inB (n : Int) (d : S35) : Bool := decide (0 ≤ d.f0 ∧ d.f0 < n) && decide (0 ≤ d.f1 ∧ d.f1 < n)
def ofSpec (n : Int) (l : List S35) : List Int × Int := if n < 0 ∨ n > 8192 then ([], 4) else if l.all (inB n) then (jns (idl n.toNat) l, 0) else ([], 4)
theorem drop_at {l : List S35} {i : Int} (h0 : 0 ≤ i) (h1 : i < l.length) : l.drop i.toNat = rd_T35 l i :: l.drop (i + 1).toNat := by
  have h2 : i.toNat < l.length := by omega
  rw [List.drop_eq_getElem_cons h2, show (i + 1).toNat = i.toNat + 1 by omega]
  congr 1
  unfold rd_T35
  rw [List.getD_eq_getElem?_getD, List.getElem?_eq_getElem h2]; rfl
theorem of_fin (P : List Int) (n : Nat) (hn : n ≤ 8192) (d : Nat) : ∀ (up : List Int) (i : Int), Inv up P → up.length = n → 0 ≤ i → i + d = n → (∀ j : Int, 0 ≤ j → j < i → rd up j = rd P j) → Ev (fun k => partition_Of.l2 k up (n : Int) i) (P, 0) := by
  induction d with
  | zero =>
    intro up i h hl h0 h1 hf
    refine ev_unf ?_
    simp only [partition_Of.l2]
    refine ev_neg (by omega) (ev_eq (ev_some _) ?_)
    congr 1
    exact rd_ext h.len fun j j0 j1 => hf j j0 (by omega)
  | succ d ih =>
    intro up i h hl h0 h1 hf
    refine ev_unf ?_
    simp only [partition_Of.l2]
    obtain ⟨up', hev, hi', hl', hk⟩ := root_ev P i.toNat up i h h0 (by omega) (by omega)
    refine ev_pos (by omega) (Ev.bind (f := fun k (bt : Int × List Int) => _) hev ?_)
    refine ev_pos h0 (ev_pos (by omega) ?_)
    rw [wrap_up h0 (by omega)]
    obtain ⟨r0, r1, r2, r3⟩ := h.at_ h0 (by omega : i < up.length)
    show Ev (fun k => partition_Of.l2 k (up'.set i.toNat (rd P i)) (n : Int) (i + 1)) (P, 0)
    refine ih _ (i + 1) (hi'.set_ h0 (by omega) r0 r1 r3 (fun q => q)) (by rw [List.length_set]; omega) (by omega) (by omega) fun j j0 j1 => ?_
    rw [rd_set h0 (by omega) j0]
    split
    · rename_i e; rw [e]
    · exact hk j j0 (by omega) (hf j j0 (by omega))
theorem of_join (l : List S35) (n : Nat) (hn : n ≤ 8192) (hlen : l.length ≤ 17592186044415) (d : Nat) : ∀ (up P : List Int) (i : Int), Inv up P → up.length = n → 0 ≤ i → i + d = l.length → l.all (inB n) = true →
    Ev (fun k => partition_Of.l1 k up l (l.length : Int) i) (jns P (l.drop i.toNat), 0) := by
  induction d with
  | zero =>
    intro up P i h hl h0 h1 hin
    refine ev_unf ?_
    simp only [partition_Of.l1]
    refine ev_neg (by omega) ?_
    rw [List.drop_eq_nil_of_le (by omega)]
    rw [hl]
    exact of_fin P n hn n up 0 h hl (by omega) (by omega) (fun j _ _ => by omega)
  | succ d ih =>
    intro up P i h hl h0 h1 hin
    have hb : inB n (rd_T35 l i) = true := by
      have hm : rd_T35 l i ∈ l := List.drop_subset i.toNat l (by rw [drop_at h0 (by omega)]; simp)
      exact List.all_eq_true.1 hin _ hm
    have e1 : jns P (l.drop i.toNat) = jns (jn P (rd_T35 l i).f0 (rd_T35 l i).f1) (l.drop (i + 1).toNat) := by rw [drop_at h0 (by omega)]; rfl
    rw [e1]
    simp only [inB, Bool.and_eq_true, decide_eq_true_eq] at hb
    obtain ⟨⟨x0, x1⟩, y0, y1⟩ := hb
    refine ev_unf ?_
    simp only [partition_Of.l1, partition_root.f]
    generalize (rd_T35 l i).f0 = x at *
    generalize (rd_T35 l i).f1 = y at *
    obtain ⟨up1, ev1, hi1, hl1, _⟩ := root_ev P x.toNat up x h x0 (by omega) (by omega)
    obtain ⟨up2, ev2, hi2, hl2, _⟩ := root_ev P y.toNat up1 y hi1 y0 (by omega) (by omega)
    refine ev_pos (by omega) (ev_pos h0 (ev_pos (by omega) (Ev.bind (f := fun k (bt : Int × List Int) => _) ev1 ?_)))
    refine Ev.bind (f := fun k (bt : Int × List Int) => _) ev2 ?_
    obtain ⟨a0, a1, _⟩ := h.at_ x0 (by omega : x < up.length)
    obtain ⟨b0, b1, _⟩ := h.at_ y0 (by omega : y < up.length)
    have hM : 0 ≤ mx (rd P x) (rd P y) ∧ mx (rd P x) (rd P y) < up.length := by unfold mx; split <;> omega
    refine ev_pos hM.1 (ev_pos hM.2 ?_)
    rw [wrap_up h0 (by omega)]
    show Ev (fun k => partition_Of.l1 k (up2.set (mx (rd P x) (rd P y)).toNat (mn (rd P x) (rd P y))) l (l.length : Int) (i + 1)) _
    exact ih _ _ (i + 1) (hi2.join x0 (by omega) y0 (by omega)) (by rw [List.length_set]; omega) (by omega) (by omega) hin
theorem idl_inv (n : Nat) : Inv (idl n) (idl n) :=
  ⟨rfl, fun i h0 h1 => by rw [idl_length] at h1; rw [rd_idl h0 h1]; exact h0, fun i h0 h1 => by rw [idl_length] at h1; rw [rd_idl h0 h1]; exact Int.le_refl _,
    fun i h0 h1 => by rw [idl_length] at h1; rw [rd_idl h0 h1, rd_idl h0 h1], fun i h0 h1 e => e⟩
theorem of_look (l : List S35) (n : Nat) (hn : n ≤ 8192) (hlen : l.length ≤ 17592186044415) (d : Nat) : ∀ i : Int, 0 ≤ i → i + d = l.length → l.all (inB n) = (l.drop i.toNat).all (inB n) →
    Ev (fun k => partition_Of.l0 k l (idl n) l (l.length : Int) i) (if l.all (inB n) then (jns (idl n) l, 0) else ([], 4)) := by
  induction d with
  | zero =>
    intro i h0 h1 h
    refine ev_unf ?_
    simp only [partition_Of.l0]
    refine ev_neg (by omega) ?_
    rw [List.drop_eq_nil_of_le (by omega)] at h
    have ha : l.all (inB n) = true := by rw [h]; rfl
    rw [if_pos ha]
    exact of_join l n hn hlen l.length (idl n) (idl n) 0 (idl_inv n) (idl_length n) (by omega) (by omega) ha
  | succ d ih =>
    intro i h0 h1 h
    rw [drop_at h0 (by omega), List.all_cons] at h
    refine ev_unf ?_
    simp only [partition_Of.l0, in_eq, Option.bind_some, idl_length]
    refine ev_pos (by omega) (ev_pos h0 (ev_pos (by omega) ?_))
    by_cases c1 : 0 ≤ (rd_T35 l i).f0 ∧ (rd_T35 l i).f0 < n
    · refine ev_pos (by simpa using c1) ?_
      by_cases c2 : 0 ≤ (rd_T35 l i).f1 ∧ (rd_T35 l i).f1 < n
      · refine ev_pos (by simpa using c2) ?_
        rw [wrap_up h0 (by omega)]
        refine ih (i + 1) (by omega) (by omega) ?_
        rw [h]; simp [inB, c1, c2]
      · refine ev_neg (by simpa using c2) (ev_eq (ev_some _) ?_)
        rw [if_neg (by rw [h]; simp only [inB, decide_eq_false c2]; simp)]
    · refine ev_neg (by simpa using c1) (ev_eq (ev_some _) ?_)
      rw [if_neg (by rw [h]; simp only [inB, decide_eq_false c1]; simp)]
theorem of_ev (n : Int) (l : List S35) (hlen : l.length ≤ 17592186044415) : Ev (fun k => partition_Of.f k n l) (ofSpec n l) := by
  simp only [partition_Of.f, ofSpec]
  refine Ev.bind (f := fun k (bt : List Int × Int) => _) (new_ev n) ?_
  unfold newSpec
  by_cases c : n < 0 ∨ n > 8192
  · rw [if_pos c, if_pos c]
    exact ev_neg (by decide) (ev_some _)
  · rw [if_neg c, if_neg c]
    refine ev_pos (by trivial) ?_
    have e : ((n.toNat : Nat) : Int) = n := by omega
    have := of_look l n.toNat (by omega) hlen l.length 0 (by omega) (by omega) rfl
    rw [e] at this
    exact this

/-! ### The reference's Of and Join -/
theorem rjoin_go (P : List Int) (a b : Int) (hl : P.length ≤ 8192) (d : Nat) : ∀ (i : Int) (out : List Int), 0 ≤ i → i + d = P.length → out = (P.take i.toNat).map (fun c => if c = b then a else c) →
    Ev (fun k => dataflowref02_join.l0 k P a b out i) (P.map fun c => if c = b then a else c) := by
  induction d with
  | zero =>
    intro i out h0 h1 ho
    refine ev_unf ?_
    simp only [dataflowref02_join.l0]
    refine ev_neg (by omega) (ev_eq (ev_some _) ?_)
    rw [ho, List.take_of_length_le (by omega)]
  | succ d ih =>
    intro i out h0 h1 ho
    have h2 : i.toNat < P.length := by omega
    have ht : P.take (i + 1).toNat = P.take i.toNat ++ [rd P i] := by
      rw [show (i + 1).toNat = i.toNat + 1 by omega, List.take_succ_eq_append_getElem h2]
      congr 2
      unfold rd
      rw [List.getD_eq_getElem?_getD, List.getElem?_eq_getElem h2]; rfl
    have hol : out.length < 17592186044416 := by rw [ho, List.length_map, List.length_take]; omega
    refine ev_unf ?_
    simp only [dataflowref02_join.l0]
    refine ev_pos (by omega) (ev_pos h0 ?_)
    rw [wrap_up h0 (by omega)]
    by_cases e : rd P i = b
    · refine ev_pos e (ev_pos hol (ih _ _ (by omega) (by omega) ?_))
      rw [ht, List.map_append, ho, List.map_singleton, if_pos e]
    · refine ev_neg e (ev_pos hol (ih _ _ (by omega) (by omega) ?_))
      rw [ht, List.map_append, ho, List.map_singleton, if_neg e]
theorem rjoin_ev (P : List Int) (x y : Int) (hl : P.length ≤ 8192) (x0 : 0 ≤ x) (x1 : x < P.length) (y0 : 0 ≤ y) (y1 : y < P.length) : Ev (fun k => dataflowref02_join.f k P x y) (jn P x y) := by
  simp only [dataflowref02_join.f]
  exact ev_pos x0 (ev_pos x1 (ev_pos y0 (ev_pos y1 (rjoin_go P _ _ hl P.length 0 [] (by omega) (by omega) rfl))))
theorem rof_join (l : List S35) (n : Nat) (hn : n ≤ 8192) (hlen : l.length ≤ 17592186044415) (d : Nat) : ∀ (P : List Int) (i : Int), P.length = n → 0 ≤ i → i + d = l.length → l.all (inB n) = true →
    Ev (fun k => dataflowref02_Of.l1 k l P i) (jns P (l.drop i.toNat), 0) := by
  induction d with
  | zero =>
    intro P i hl h0 h1 hin
    refine ev_unf ?_
    simp only [dataflowref02_Of.l1]
    refine ev_neg (by omega) (ev_eq (ev_some _) ?_)
    rw [List.drop_eq_nil_of_le (by omega)]; rfl
  | succ d ih =>
    intro P i hl h0 h1 hin
    have hb : inB n (rd_T35 l i) = true := by
      have hm : rd_T35 l i ∈ l := List.drop_subset i.toNat l (by rw [drop_at h0 (by omega)]; simp)
      exact List.all_eq_true.1 hin _ hm
    have e1 : jns P (l.drop i.toNat) = jns (jn P (rd_T35 l i).f0 (rd_T35 l i).f1) (l.drop (i + 1).toNat) := by rw [drop_at h0 (by omega)]; rfl
    rw [e1]
    simp only [inB, Bool.and_eq_true, decide_eq_true_eq] at hb
    obtain ⟨⟨x0, x1⟩, y0, y1⟩ := hb
    refine ev_unf ?_
    simp only [dataflowref02_Of.l1]
    generalize (rd_T35 l i).f0 = x at *
    generalize (rd_T35 l i).f1 = y at *
    refine ev_pos (by omega) (ev_pos h0 (ev_pos x0 (ev_pos (by omega) (ev_pos y0 (ev_pos (by omega) ?_)))))
    rw [wrap_up h0 (by omega)]
    by_cases e : rd P x = rd P y
    · rw [jn_same e]
      exact ev_pos e (ih P (i + 1) hl (by omega) (by omega) hin)
    · refine ev_neg e (Ev.bind (rjoin_ev P x y (by omega) x0 (by omega) y0 (by omega)) ?_)
      exact ih _ (i + 1) (by rw [jn_length]; exact hl) (by omega) (by omega) hin
theorem rof_look (l : List S35) (n : Nat) (hn : n ≤ 8192) (hlen : l.length ≤ 17592186044415) (d : Nat) : ∀ i : Int, 0 ≤ i → i + d = l.length → l.all (inB n) = (l.drop i.toNat).all (inB n) →
    Ev (fun k => dataflowref02_Of.l0 k (n : Int) l (idl n) i) (if l.all (inB n) then (jns (idl n) l, 0) else ([], 4)) := by
  induction d with
  | zero =>
    intro i h0 h1 h
    refine ev_unf ?_
    simp only [dataflowref02_Of.l0]
    refine ev_neg (by omega) ?_
    rw [List.drop_eq_nil_of_le (by omega)] at h
    have ha : l.all (inB n) = true := by rw [h]; rfl
    rw [if_pos ha]
    exact rof_join l n hn hlen l.length (idl n) 0 (idl_length n) (by omega) (by omega) ha
  | succ d ih =>
    intro i h0 h1 h
    rw [drop_at h0 (by omega), List.all_cons] at h
    refine ev_unf ?_
    simp only [dataflowref02_Of.l0]
    refine ev_pos (by omega) (ev_pos h0 ?_)
    have bad : ¬ (0 ≤ (rd_T35 l i).f0 ∧ (rd_T35 l i).f0 < n) ∨ ¬ (0 ≤ (rd_T35 l i).f1 ∧ (rd_T35 l i).f1 < n) → (if l.all (inB n) then (jns (idl n) l, 0) else ([], 4)) = (([] : List Int), (4 : Int)) := by
      rintro (c | c)
      · rw [if_neg (by rw [h]; simp only [inB, decide_eq_false c]; simp)]
      · rw [if_neg (by rw [h]; simp only [inB, decide_eq_false c]; simp)]
    by_cases c1 : (rd_T35 l i).f0 < 0
    · exact ev_pos c1 (ev_eq (ev_some _) (bad (.inl (by omega))).symm)
    refine ev_neg c1 ?_
    by_cases c2 : (rd_T35 l i).f0 ≥ n
    · exact ev_pos c2 (ev_eq (ev_some _) (bad (.inl (by omega))).symm)
    refine ev_neg c2 ?_
    by_cases c3 : (rd_T35 l i).f1 < 0
    · exact ev_pos c3 (ev_eq (ev_some _) (bad (.inr (by omega))).symm)
    refine ev_neg c3 ?_
    by_cases c4 : (rd_T35 l i).f1 ≥ n
    · exact ev_pos c4 (ev_eq (ev_some _) (bad (.inr (by omega))).symm)
    refine ev_neg c4 ?_
    rw [wrap_up h0 (by omega)]
    refine ih (i + 1) (by omega) (by omega) ?_
    have d1 : 0 ≤ (rd_T35 l i).f0 ∧ (rd_T35 l i).f0 < n := by omega
    have d2 : 0 ≤ (rd_T35 l i).f1 ∧ (rd_T35 l i).f1 < n := by omega
    rw [h]; simp [inB, d1, d2]
theorem rof_ev (n : Int) (l : List S35) (hlen : l.length ≤ 17592186044415) : Ev (fun k => dataflowref02_Of.f k n l) (ofSpec n l) := by
  simp only [dataflowref02_Of.f, ofSpec]
  refine Ev.bind (f := fun k (bt : List Int × Int) => _) (rnew_ev n) ?_
  unfold newSpec
  by_cases c : n < 0 ∨ n > 8192
  · rw [if_pos c, if_pos c]
    exact ev_neg (by decide) (ev_some _)
  · rw [if_neg c, if_neg c]
    refine ev_pos (by trivial) ?_
    have e : ((n.toNat : Nat) : Int) = n := by omega
    have := rof_look l n.toNat (by omega) hlen l.length 0 (by omega) (by omega) rfl
    rw [e] at this
    exact this
theorem awake_ev : Ev (fun k => dataflowlaw02_awake.f k) true := Ev.of (fun k => dataflowlaw02_awake.mono k) (k := 40) (by decide +kernel)
end Go.Proofs.Ytjemjpakgpdonaa.PAll
