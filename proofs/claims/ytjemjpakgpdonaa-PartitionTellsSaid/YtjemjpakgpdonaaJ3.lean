import Derived.Test.YtjemjpakgpdonaaJ2
/-! The plain side of Join and of the statements on the order of the pairs and on every question. -/
namespace Go.Proofs.Ytjemjpakgpdonaa.PAll
open Go.RowKit Go.Proofs.YtjemjpakgpdonaaW.PrintWords Go.Proofs.YtjemjpakgpdonaaW.PrintLast Go.Proofs.YtjemjpakgpdonaaW.PrintMore
set_option linter.unusedVariables false
set_option linter.unusedSimpArgs false

theorem join_go (P : List Int) (x y : Int) (hl : P.length ≤ 8192) (d : Nat) : ∀ (l : List Int) (i : Int), l.length = P.length → 0 ≤ i → i + d = P.length → (∀ j : Int, 0 ≤ j → j < P.length → rd l j = if j < i then rd (jn P x y) j else rd P j) →
    Ev (fun k => partition_Join.l0 k (mn (rd P x) (rd P y)) (mx (rd P x) (rd P y)) l (P.length : Int) i) (jn P x y, 0) := by
  induction d with
  | zero =>
    intro l i hlen h0 h1 h
    refine ev_unf ?_
    simp only [partition_Join.l0]
    refine ev_neg (by omega) (ev_eq (ev_some _) ?_)
    congr 1
    exact rd_ext (by rw [jn_length, hlen]) fun j j0 j1 => by rw [h j j0 (by omega), if_pos (by omega)]
  | succ d ih =>
    intro l i hlen h0 h1 h
    refine ev_unf ?_
    simp only [partition_Join.l0]
    have hi := h i h0 (by omega)
    rw [if_neg (by omega)] at hi
    have hj := rd_jn P x y h0 (by omega : i < P.length)
    refine ev_pos (by omega) (ev_pos h0 (ev_pos (by omega) ?_))
    rw [wrap_up h0 (by omega), hi]
    by_cases c : rd P i = mx (rd P x) (rd P y)
    · rw [if_pos c] at hj
      refine ev_pos c (ih _ (i + 1) (by rw [List.length_set]; exact hlen) (by omega) (by omega) fun j j0 j1 => ?_)
      rw [rd_set h0 (by omega) j0]
      by_cases e : j = i
      · rw [if_pos e, if_pos (by omega), e, hj]
      · rw [if_neg e, h j j0 j1]
        by_cases e2 : j < i
        · rw [if_pos e2, if_pos (by omega)]
        · rw [if_neg e2, if_neg (by omega)]
    · rw [if_neg c] at hj
      refine ev_neg c (ih _ (i + 1) hlen (by omega) (by omega) fun j j0 j1 => ?_)
      by_cases e : j = i
      · rw [if_pos (by omega), e, hi, hj]
      · rw [h j j0 j1]
        by_cases e2 : j < i
        · rw [if_pos e2, if_pos (by omega)]
        · rw [if_neg e2, if_neg (by omega)]
def joinSpec (p : List Int) (x y : Int) : List Int × Int := if chk p = 0 then (if (0 ≤ x ∧ x < p.length) ∧ (0 ≤ y ∧ y < p.length) then (jn p x y, 0) else ([], 4)) else ([], chk p)
theorem join_ev (p : List Int) (x y : Int) : Ev (fun k => partition_Join.f k p x y) (joinSpec p x y) := by
  simp only [partition_Join.f, in_eq, Option.bind_some, joinSpec]
  refine Ev.bind (check_ev p) ?_
  by_cases c : chk p = 0
  · have hv := chk_valid.1 c
    have hle := hv.le
    rw [if_pos c]
    refine ev_pos c ?_
    by_cases cx : 0 ≤ x ∧ x < p.length
    · refine ev_pos (by simpa using cx) (ev_unf ?_)
      simp only [partition_Join.j0]
      by_cases cy : 0 ≤ y ∧ y < p.length
      · rw [if_pos ⟨cx, cy⟩]
        refine ev_neg (by simpa using cy) (ev_pos cx.1 (ev_pos cx.2 (ev_pos cy.1 (ev_pos cy.2 ?_))))
        simp only [Option.bind_some, List.nil_append]
        refine ev_pos (by simp; omega) ?_
        exact join_go p x y hle p.length p 0 rfl (by omega) (by omega) fun j j0 j1 => by rw [if_neg (by omega)]
      · rw [if_neg (fun h => cy h.2)]
        exact ev_pos (by simp; omega) (ev_some _)
    · rw [if_neg (fun h => cx h.1)]
      refine ev_neg (by simpa using cx) (ev_unf ?_)
      simp only [partition_Join.j0]
      exact ev_pos (by trivial) (ev_some _)
  · rw [if_neg c]
    exact ev_neg c (ev_some _)
theorem rJoin_ev (p : List Int) (x y : Int) : Ev (fun k => dataflowref02_Join.f k p x y) (joinSpec p x y) := by
  simp only [dataflowref02_Join.f, joinSpec]
  refine Ev.bind (rcheck_ev p) ?_
  by_cases c : chk p = 0
  · have hle := (chk_valid.1 c).le
    rw [if_pos c]
    refine ev_pos c ?_
    by_cases c1 : x < 0
    · rw [if_neg (by omega)]; exact ev_pos c1 (ev_some _)
    refine ev_neg c1 ?_
    by_cases c2 : x ≥ p.length
    · rw [if_neg (by omega)]; exact ev_pos c2 (ev_some _)
    refine ev_neg c2 ?_
    by_cases c3 : y < 0
    · rw [if_neg (by omega)]; exact ev_pos c3 (ev_some _)
    refine ev_neg c3 ?_
    by_cases c4 : y ≥ p.length
    · rw [if_neg (by omega)]; exact ev_pos c4 (ev_some _)
    refine ev_neg c4 ?_
    rw [if_pos (by omega)]
    exact Ev.bind (rjoin_ev p x y hle (by omega) (by omega) (by omega) (by omega)) (ev_some _)
  · rw [if_neg c]
    exact ev_neg c (ev_some _)
def findSpec (p : List Int) (x : Int) : Int × Int := if chk p = 0 then (if 0 ≤ x ∧ x < p.length then (rd p x, 0) else (0, 4)) else (0, chk p)
theorem find_ev (p : List Int) (x : Int) : Ev (fun k => partition_Find.f k p x) (findSpec p x) := by
  simp only [partition_Find.f, in_eq, Option.bind_some]
  refine Ev.bind (check_ev p) ?_
  by_cases c : chk p = 0
  · by_cases cx : 0 ≤ x ∧ x < p.length
    · have hs : findSpec p x = (rd p x, 0) := by unfold findSpec; rw [if_pos c, if_pos cx]
      rw [hs]
      exact ev_pos c (ev_pos (by simpa using cx) (ev_pos cx.1 (ev_pos cx.2 (ev_some _))))
    · have hs : findSpec p x = (0, 4) := by unfold findSpec; rw [if_pos c, if_neg cx]
      rw [hs]
      exact ev_pos c (ev_neg (by simpa using cx) (ev_some _))
  · have hs : findSpec p x = (0, chk p) := by unfold findSpec; rw [if_neg c]
    rw [hs]
    exact ev_neg c (ev_some _)

/-! ### Every question -/
theorem tells_ev (p : List Int) (x y : Int) (hp : p.length * 8 ≤ 140737488351232) : Ev (fun k => dataflowlaw02_PartitionTells.f k p x y) true := by
  simp only [dataflowlaw02_PartitionTells.f]
  by_cases c : (p.length : Int) > 8200
  · refine ev_pos c (Ev.bind (check_ev p) (ev_pos ?_ awake_bind))
    unfold chk
    rw [if_pos (by omega)]
  refine ev_neg c (Ev.bind (check_ev p) (Ev.bind (rcheck_ev p) (ev_pos (by trivial) (Ev.bind (same_ev p x y) (Ev.bind (rsame_ev p x y) ?_)))))
  refine ev_unf ?_
  simp only [dataflowlaw02_PartitionTells.j0]
  refine ev_neg (by simp) (Ev.bind (f := fun k (bt : List Int × Int) => _) (join_ev p x y) (Ev.bind (f := fun k (bt : List Int × Int) => _) (rJoin_ev p x y) (ev_pos (by trivial) ?_)))
  have hjl : (joinSpec p x y).1.length ≤ 140737488355327 := by
    unfold joinSpec
    split
    · split
      · rw [jn_length]; omega
      · simp
    · simp
  refine Ev.bind (requal_ev _ _ hjl) (ev_unf ?_)
  simp only [dataflowlaw02_PartitionTells.j1]
  refine ev_neg (by simp) (Ev.bind (f := fun k (bt : Int × Int) => _) (find_ev p x) (Ev.bind (rcheck_ev p) ?_))
  by_cases e : chk p = 0
  · refine ev_pos e ?_
    simp only [findSpec, if_pos e]
    by_cases h0 : x < 0
    · refine ev_pos h0 (ev_unf ?_)
      simp only [dataflowlaw02_PartitionTells.j2]
      have hn : ¬ (0 ≤ x ∧ x < p.length) := by omega
      simp only [if_neg hn]
      exact ev_pos (by trivial) (ev_pos (by trivial) (ev_pos (by trivial) awake_bind))
    · refine ev_neg h0 (ev_unf ?_)
      simp only [dataflowlaw02_PartitionTells.j2]
      by_cases h1 : x ≥ p.length
      · have hn : ¬ (0 ≤ x ∧ x < p.length) := by omega
        simp only [if_neg hn]
        exact ev_pos (by simpa using h1) (ev_pos (by trivial) (ev_pos (by trivial) awake_bind))
      · have hy : 0 ≤ x ∧ x < p.length := by omega
        simp only [if_pos hy]
        exact ev_neg (by simpa using h1) (ev_pos (by trivial) (ev_pos hy.1 (ev_pos hy.2 (ev_pos (by trivial) awake_bind))))
  · refine ev_neg e (Ev.bind (rcheck_ev p) ?_)
    simp only [findSpec, if_neg e]
    exact ev_pos (by trivial) (ev_pos (by trivial) awake_bind)

/-! ### The order of the pairs -/
def sw (d : S35) : S35 := ⟨d.f1, d.f0⟩
theorem inB_sw (n : Int) (d : S35) : inB n (sw d) = inB n d := Bool.and_comm _ _
theorem all_back (n : Int) (l : List S35) : (l.reverse.map sw).all (inB n) = l.all (inB n) := by
  rw [List.all_map, List.all_reverse]
  congr 1
  funext d
  exact inB_sw n d
theorem jns_facts (n : Nat) (hn : n ≤ 8192) (l : List S35) (h : l.all (inB n) = true) : Valid (jns (idl n) l) ∧ (jns (idl n) l).length = n ∧ ∀ d ∈ l, rd (jns (idl n) l) d.f0 = rd (jns (idl n) l) d.f1 := by
  have hz : ∀ i : Int, 0 ≤ i → i < n → rd (List.replicate n (0 : Int)) i = 0 := by
    intro i h0 h1
    unfold rd
    rw [List.getD_eq_getElem?_getD, List.getElem?_replicate, if_pos (by omega)]; rfl
  have hu : Under (idl n) (List.replicate n 0) := by
    refine ⟨idl_valid hn, by rw [idl_length, List.length_replicate], fun i h0 h1 => ?_⟩
    rw [idl_length] at h1
    rw [rd_idl h0 h1]
  obtain ⟨r1, _, r3⟩ := jns_finest (List.replicate n 0) l (idl n) hu (fun d hd => by
    have hb := List.all_eq_true.1 h d hd
    rw [List.length_replicate]
    refine ⟨hb, ?_⟩
    simp only [inB, Bool.and_eq_true, decide_eq_true_eq] at hb
    rw [hz _ hb.1.1 hb.1.2, hz _ hb.2.1 hb.2.2])
  exact ⟨r1.v, by rw [jns_length, idl_length], r3⟩
theorem jns_le (n : Nat) (hn : n ≤ 8192) (l m : List S35) (hl : l.all (inB n) = true) (hm : m.all (inB n) = true) (h : ∀ d ∈ l, d ∈ m ∨ sw d ∈ m) :
    ∀ i : Int, 0 ≤ i → i < n → rd (jns (idl n) m) (rd (jns (idl n) l) i) = rd (jns (idl n) m) i := by
  obtain ⟨v, len, same⟩ := jns_facts n hn m hm
  have hu : Under (idl n) (jns (idl n) m) := by
    refine ⟨idl_valid hn, by rw [idl_length, len], fun i h0 h1 => ?_⟩
    rw [idl_length] at h1
    rw [rd_idl h0 h1]
  obtain ⟨r1, _, _⟩ := jns_finest (jns (idl n) m) l (idl n) hu (fun d hd => by
    rw [len]
    refine ⟨List.all_eq_true.1 hl d hd, ?_⟩
    rcases h d hd with h | h
    · exact same d h
    · exact (same _ h).symm)
  intro i h0 h1
  exact r1.un i h0 (by rw [jns_length, idl_length]; exact h1)
theorem jns_back (n : Nat) (hn : n ≤ 8192) (l : List S35) (hl : l.all (inB n) = true) : jns (idl n) l = jns (idl n) (l.reverse.map sw) := by
  have hb : (l.reverse.map sw).all (inB n) = true := by rw [all_back, hl]
  obtain ⟨v1, len1, _⟩ := jns_facts n hn l hl
  obtain ⟨v2, len2, _⟩ := jns_facts n hn _ hb
  have a := jns_le n hn l (l.reverse.map sw) hl hb (fun d hd => .inr (List.mem_map.2 ⟨d, by simpa using hd, rfl⟩))
  have b := jns_le n hn (l.reverse.map sw) l hb hl (fun d hd => by
    obtain ⟨e, he, rfl⟩ := List.mem_map.1 hd
    exact .inr (by simpa [sw] using he))
  refine rd_ext (by rw [len1, len2]) fun i h0 h1 => ?_
  rw [len1] at h1
  generalize jns (idl n) l = P at *
  generalize jns (idl n) (l.reverse.map sw) = Q at *
  have e1 := a i h0 h1
  have e2 := b i h0 h1
  have p0 := v1.lo i h0 (by omega)
  have p1 := v1.hi i h0 (by omega)
  have q0 := v2.lo i h0 (by omega)
  have q1 := v2.hi i h0 (by omega)
  have q2 := v2.hi (rd P i) p0 (by omega)
  have p2 := v1.hi (rd Q i) q0 (by omega)
  omega
theorem order_steps (l : List S35) (n : Nat) (hn : n ≤ 255) (hl : l.length ≤ 60) (d : Nat) : ∀ (P : List Int) (i : Int), 0 ≤ i → i + d = l.length → Valid P → P.length = n → l.all (inB n) = (l.drop i.toNat).all (inB n) → jns P (l.drop i.toNat) = jns (idl n) l →
    Ev (fun k => dataflowlaw02_PartitionOrder.l1 k l (ofSpec n l).1 (ofSpec n l).2 P 0 i) true := by
  induction d with
  | zero =>
    intro P i h0 h1 hv hP ha hj
    refine ev_unf ?_
    simp only [dataflowlaw02_PartitionOrder.l1]
    rw [List.drop_eq_nil_of_le (by omega)] at ha hj
    have hs : ofSpec (n : Int) l = (P, 0) := by
      unfold ofSpec
      rw [if_neg (by omega), if_pos (by rw [ha]; rfl)]
      show (jns (idl n) l, (0 : Int)) = _
      rw [← hj]; rfl
    rw [hs]
    refine ev_neg (by omega) (ev_pos (by simp) (ev_pos (by trivial) (Ev.bind (requal_ev P P (by have := hv.le; omega)) ?_)))
    exact ev_pos (by simp) awake_bind
  | succ d ih =>
    intro P i h0 h1 hv hP ha hj
    refine ev_unf ?_
    simp only [dataflowlaw02_PartitionOrder.l1]
    rw [drop_at h0 (by omega)] at ha hj
    refine ev_pos (by omega) (ev_pos (by trivial) (ev_pos h0 (Ev.bind (f := fun k (bt : List Int × Int) => _) (join_ev P _ _) ?_)))
    rw [wrap_up h0 (by omega)]
    by_cases c : (0 ≤ (rd_T35 l i).f0 ∧ (rd_T35 l i).f0 < P.length) ∧ (0 ≤ (rd_T35 l i).f1 ∧ (rd_T35 l i).f1 < P.length)
    · have hs : joinSpec P (rd_T35 l i).f0 (rd_T35 l i).f1 = (jn P (rd_T35 l i).f0 (rd_T35 l i).f1, 0) := by
        unfold joinSpec
        rw [if_pos (chk_valid.2 hv), if_pos c]
      simp only [hs]
      refine ih _ (i + 1) (by omega) (by omega) (jn_valid hv c.1.1 c.1.2 c.2.1 c.2.2) (by rw [jn_length, hP]) ?_ hj
      rw [ha, List.all_cons]
      rw [hP] at c
      simp [inB, c.1, c.2]
    · have hs : joinSpec P (rd_T35 l i).f0 (rd_T35 l i).f1 = ([], 4) := by
        unfold joinSpec
        rw [if_pos (chk_valid.2 hv), if_neg c]
      simp only [hs]
      have hb : inB n (rd_T35 l i) = false := by
        rw [hP] at c
        simp only [inB]
        rw [Bool.eq_false_iff]
        intro q
        rw [Bool.and_eq_true, decide_eq_true_eq, decide_eq_true_eq] at q
        exact c q
      have ho : ofSpec (n : Int) l = ([], 4) := by
        unfold ofSpec
        rw [if_neg (by omega), if_neg (by rw [ha, List.all_cons, hb]; simp)]
      rw [ho]
      refine ev_unf ?_
      simp only [dataflowlaw02_PartitionOrder.l1]
      by_cases q : i + 1 < (l.length : Int)
      · exact ev_pos q (ev_neg (by decide) (ev_pos (by decide) (ev_neg (by decide) awake_bind)))
      · exact ev_neg q (ev_pos (by decide) (ev_neg (by decide) awake_bind))
theorem order_back (l : List S35) (n : Nat) (hn : n ≤ 255) (hl : l.length ≤ 60) (d : Nat) : ∀ (i : Int) (b : List S35), i = (d : Int) - 1 → d ≤ l.length → b = ((l.drop d).reverse.map sw) →
    Ev (fun k => dataflowlaw02_PartitionOrder.l0 k (n : Int) l (ofSpec n l).1 (ofSpec n l).2 b i) true := by
  have wn : wrap64 (n : Int) = n := by unfold wrap64; omega
  induction d with
  | zero =>
    intro i b hi hd hb
    refine ev_unf ?_
    simp only [dataflowlaw02_PartitionOrder.l0, wn]
    rw [List.drop_zero] at hb
    refine ev_neg (by omega) (Ev.bind (f := fun k (bt : List Int × Int) => _) (of_ev n b (by rw [hb]; simp; omega)) ?_)
    have hs : ofSpec (n : Int) b = ofSpec n l := by
      unfold ofSpec
      have c0 : ¬ ((n : Int) < 0 ∨ (n : Int) > 8192) := by omega
      simp only [if_neg c0]
      rw [hb, all_back]
      by_cases c : l.all (inB n) = true
      · rw [if_pos c, if_pos c]
        exact congrArg (fun z => (z, (0 : Int))) (jns_back n (by omega) l c).symm
      · rw [if_neg c, if_neg c]
    rw [hs]
    refine ev_pos (by trivial) (Ev.bind (requal_ev _ _ (by have := ofSpec_length n l; omega)) (ev_unf ?_))
    simp only [dataflowlaw02_PartitionOrder.j1, wn]
    refine ev_neg (by simp) (Ev.bind (f := fun k (bt : List Int × Int) => _) (new_ev n) ?_)
    have hw : newSpec (n : Int) = (idl n, 0) := by
      unfold newSpec
      rw [if_neg (by omega)]; rfl
    simp only [hw]
    exact order_steps l n hn hl l.length (idl n) 0 (by omega) (by omega) (idl_valid (by omega)) (idl_length n) rfl rfl
  | succ d ih =>
    intro i b hi hd hb
    have hlt : d < l.length := by omega
    refine ev_unf ?_
    simp only [dataflowlaw02_PartitionOrder.l0]
    refine ev_pos (by omega) (ev_pos (by omega) (ev_pos (by omega) (ev_pos (by rw [hb]; simp; omega) ?_)))
    rw [show wrap64 (i - 1) = (d : Int) - 1 by unfold wrap64; omega]
    refine ih _ _ rfl (by omega) ?_
    rw [hb, show l.drop d = rd_T35 l i :: l.drop (d + 1) from ?_]
    · simp [sw]
    · have := drop_at (l := l) (i := (d : Int)) (by omega) (by omega)
      rw [show ((d : Int)).toNat = d by omega, show ((d : Int) + 1).toNat = d + 1 by omega] at this
      rw [this, show i = (d : Int) by omega]
theorem order_ev (n : Int) (l : List S35) (hw : (Lit.int .u8 n).wf = true) : Ev (fun k => dataflowlaw02_PartitionOrder.f k n l) true := by
  have hn : 0 ≤ n ∧ n ≤ 255 := by
    have e0 : IntKind.u8.min = 0 := rfl
    have e1 : IntKind.u8.max = 255 := rfl
    simp [Lit.wf, e0, e1] at hw
    omega
  obtain ⟨m, rfl⟩ := Int.eq_ofNat_of_zero_le hn.1
  simp only [dataflowlaw02_PartitionOrder.f]
  by_cases c : (l.length : Int) > 60
  · exact ev_pos c awake_bind
  refine ev_neg c ?_
  rw [show wrap64 (m : Int) = m by unfold wrap64; omega]
  refine Ev.bind (f := fun k (bt : List Int × Int) => _) (of_ev m l (by omega)) ?_
  rw [show wrap64 ((l.length : Int) - 1) = (l.length : Int) - 1 by unfold wrap64; omega]
  exact order_back l m (by omega) (by omega) l.length _ [] rfl (Nat.le_refl _) (by rw [List.drop_length]; rfl)
end Go.Proofs.Ytjemjpakgpdonaa.PAll
