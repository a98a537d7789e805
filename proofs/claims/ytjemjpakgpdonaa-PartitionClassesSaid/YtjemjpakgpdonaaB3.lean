import Derived.Test.YtjemjpakgpdonaaB2
/-! The plain side of the statements on Of, Same and Finer. -/
namespace Go.Proofs.Ytjemjpakgpdonaa.PAll
open Go.RowKit Go.Proofs.YtjemjpakgpdonaaW.PrintWords Go.Proofs.YtjemjpakgpdonaaW.PrintLast Go.Proofs.YtjemjpakgpdonaaW.PrintMore
set_option linter.unusedVariables false
set_option linter.unusedSimpArgs false

theorem jns_length (l : List S35) : ∀ P : List Int, (jns P l).length = P.length := by
  induction l with
  | nil => intro P; rfl
  | cons d l ih => intro P; show (jns (jn P d.f0 d.f1) l).length = _; rw [ih, jn_length]
theorem ofSpec_length (n : Int) (l : List S35) : (ofSpec n l).1.length ≤ 8192 := by
  unfold ofSpec
  split
  · simp
  · split
    · rw [jns_length, idl_length]; omega
    · simp
theorem newSpec_length (n : Int) : (newSpec n).1.length ≤ 8192 := by
  unfold newSpec
  split
  · simp
  · rw [idl_length]; omega
theorem awake_bind : Ev (fun k => (dataflowlaw02_awake.f k).bind fun t => some t) true := Ev.bind awake_ev (ev_some _)

theorem partitionOf_ev (n : Int) (l : List S35) : Ev (fun k => dataflowlaw02_PartitionOf.f k n l) true := by
  simp only [dataflowlaw02_PartitionOf.f]
  by_cases c : (l.length : Int) > 300
  · exact ev_pos c awake_bind
  refine ev_neg c ?_
  refine Ev.bind (f := fun k (bt : List Int × Int) => _) (of_ev n l (by omega)) ?_
  refine Ev.bind (f := fun k (bt : List Int × Int) => _) (rof_ev n l (by omega)) ?_
  refine Ev.bind (f := fun k (bt : List Int × Int) => _) (new_ev n) ?_
  refine Ev.bind (f := fun k (bt : List Int × Int) => _) (rnew_ev n) ?_
  have h1 := ofSpec_length n l
  have h2 := newSpec_length n
  refine ev_pos (by trivial) ?_
  refine Ev.bind (requal_ev _ _ (by omega)) ?_
  refine ev_pos (by simp) (ev_pos (by trivial) ?_)
  refine Ev.bind (requal_ev _ _ (by omega)) ?_
  exact ev_pos (by simp) awake_bind

/-! ### Same is an equivalence -/
theorem equivalent_ev (p m : List Int) (hp : p.length * 8 ≤ 140737488351232) : Ev (fun k => dataflowlaw02_PartitionEquivalent.f k p m) true := by
  simp only [dataflowlaw02_PartitionEquivalent.f]
  by_cases c : (p.length : Int) > 8200
  · refine ev_pos c (ev_unf ?_)
    simp only [dataflowlaw02_PartitionEquivalent.j0]
    exact ev_pos (by trivial) awake_bind
  refine ev_neg c (ev_unf ?_)
  simp only [dataflowlaw02_PartitionEquivalent.j0]
  by_cases d : (m.length : Int) = 3
  · refine ev_neg (by simp [d]) (ev_pos (by omega) (ev_pos (by omega) (ev_pos (by omega) ?_)))
    generalize rd m 0 = x
    generalize rd m 1 = y
    generalize rd m 2 = z
    have last : Ev (fun k => dataflowlaw02_PartitionEquivalent.j1 k p x false) true := by
      refine ev_unf ?_
      simp only [dataflowlaw02_PartitionEquivalent.j1]
      refine ev_neg (by simp) (Ev.bind (rcheck_ev p) ?_)
      by_cases e : chk p = 0
      · refine ev_pos e ?_
        by_cases f : x ≥ 0
        · refine ev_pos f (Ev.bind (same_ev p x x) ?_)
          have f' : 0 ≤ x := f
          exact ev_pos (by simp [sam, e, f']) awake_bind
        · refine ev_neg f (Ev.bind (same_ev p x x) ?_)
          have f' : ¬ 0 ≤ x := f
          exact ev_pos (by simp [sam, f']) awake_bind
      · refine ev_neg e (Ev.bind (same_ev p x x) ?_)
        exact ev_pos (by simp [sam, e]) awake_bind
    have sym : sam p x y = sam p y x := by
      rw [Bool.eq_iff_iff, sam_iff, sam_iff]
      exact ⟨fun ⟨a, b, c, d⟩ => ⟨a, c, b, d.symm⟩, fun ⟨a, b, c, d⟩ => ⟨a, c, b, d.symm⟩⟩
    refine Ev.bind (same_ev p x y) (Ev.bind (same_ev p y x) (ev_neg (by simp [sym]) (Ev.bind (same_ev p x y) ?_)))
    by_cases h1 : sam p x y = true
    · refine ev_pos h1 (Ev.bind (same_ev p y z) ?_)
      by_cases h2 : sam p y z = true
      · refine ev_pos h2 (Ev.bind (same_ev p x z) ?_)
        have h3 : sam p x z = true := by
          rw [sam_iff] at h1 h2 ⊢
          exact ⟨h1.1, h1.2.1, h2.2.2.1, h1.2.2.2.trans h2.2.2.2⟩
        rw [h3]
        exact last
      · exact ev_neg h2 last
    · exact ev_neg h1 last
  · exact ev_pos (by simpa using d) awake_bind

/-! ### Finer -/
theorem finer_law (a b : List Int) : Ev (fun k => dataflowlaw02_PartitionFiner.f k a b) true := by
  have far : ∀ c : Bool, (c = false → a.length ≤ 60 ∧ b.length ≤ 60) → Ev (fun k => dataflowlaw02_PartitionFiner.j0 k a b c) true := by
    intro c hc
    refine ev_unf ?_
    simp only [dataflowlaw02_PartitionFiner.j0]
    cases c with
    | true => exact ev_pos (by trivial) awake_bind
    | false =>
      obtain ⟨hla, hlb⟩ := hc rfl
      refine ev_neg (by simp) ?_
      -- the end
      have fine : ∀ (s : Bool) (x : Int), fin a b = s → Ev (fun k => dataflowlaw02_PartitionFiner.j3 k a b s x false) true := by
        intro s x hs
        refine ev_unf ?_
        simp only [dataflowlaw02_PartitionFiner.j3]
        refine ev_neg (by simp) (Ev.bind (finer_ev a b) ?_)
        exact ev_pos (by simp [hs]) awake_bind
      have outer : ∀ (d : Nat) (s : Bool) (x : Int), 0 ≤ x → x + d = a.length → (s = true → Valid a ∧ Valid b ∧ a.length = b.length ∧ ∀ i : Int, 0 ≤ i → i < x → ∀ j : Int, 0 ≤ j → j < a.length → rd a i = rd a j → rd b i = rd b j) → (s = false → fin a b = false) →
          Ev (fun k => dataflowlaw02_PartitionFiner.l0 k a b s x) true := by
        intro d
        induction d with
        | zero =>
          intro s x h0 h1 ht hf
          refine ev_unf ?_
          simp only [dataflowlaw02_PartitionFiner.l0]
          refine ev_neg (by omega) (fine s x ?_)
          cases s with
          | false => exact hf rfl
          | true =>
            obtain ⟨va, vb, hl, h⟩ := ht rfl
            rw [fin_iff]
            refine ⟨va, vb, hl, fun j j0 j1 => ?_⟩
            exact (h j j0 (by omega) (rd a j) (va.lo j j0 j1) (by have := va.hi j j0 j1; omega) (va.id j j0 j1).symm).symm
        | succ d ih =>
          intro s x h0 h1 ht hf
          refine ev_unf ?_
          simp only [dataflowlaw02_PartitionFiner.l0]
          refine ev_pos (by omega) ?_
          cases s with
          | false => exact fine false x (hf rfl)
          | true =>
            refine ev_unf ?_
            simp only [dataflowlaw02_PartitionFiner.j3]
            refine ev_pos (by trivial) ?_
            obtain ⟨va, vb, hl, h⟩ := ht rfl
            have hfalse : fin a b = false → Ev (fun k => dataflowlaw02_PartitionFiner.l0 k a b false (x + 1)) true := fun hfb => ih false (x + 1) (by omega) (by omega) (fun q => by simp at q) (fun _ => hfb)
            have inner : ∀ (e : Nat) (y : Int), 0 ≤ y → y + e = a.length → (∀ j : Int, 0 ≤ j → j < y → rd a x = rd a j → rd b x = rd b j) → Ev (fun k => dataflowlaw02_PartitionFiner.l1 k a b true x y) true := by
              intro e
              induction e with
              | zero =>
                intro y y0 y1 hy
                refine ev_unf ?_
                simp only [dataflowlaw02_PartitionFiner.l1]
                refine ev_neg (by omega) ?_
                rw [wrap_up h0 (by omega)]
                refine ih true (x + 1) (by omega) (by omega) (fun _ => ⟨va, vb, hl, fun i i0 i1 j j0 j1 q => ?_⟩) (fun q => by simp at q)
                by_cases q2 : i = x
                · rw [q2] at q ⊢; exact hy j j0 (by omega) q
                · exact h i i0 (by omega) j j0 j1 q
              | succ e ihe =>
                intro y y0 y1 hy
                refine ev_unf ?_
                simp only [dataflowlaw02_PartitionFiner.l1]
                refine ev_pos (by omega) (ev_pos (by trivial) (ev_pos h0 (ev_pos (by omega) (ev_pos y0 ?_))))
                rw [wrap_up y0 (by omega)]
                by_cases q : rd a x = rd a y
                · refine ev_pos q (ev_pos (by omega) (ev_pos (by omega) ?_))
                  by_cases q3 : rd b x = rd b y
                  · rw [show (rd b x == rd b y) = true by simp [q3]]
                    refine ihe (y + 1) (by omega) (by omega) fun j j0 j1 q4 => ?_
                    by_cases q5 : j = y
                    · rw [q5]; exact q3
                    · exact hy j j0 (by omega) q4
                  · rw [show (rd b x == rd b y) = false by simpa using q3]
                    refine ev_unf ?_
                    simp only [dataflowlaw02_PartitionFiner.l1]
                    rw [wrap_up h0 (by omega)]
                    have hfb : fin a b = false := by
                      rw [Bool.eq_false_iff]
                      intro hh
                      rw [fin_iff] at hh
                      have e1 := hh.2.2.2 x h0 (by omega)
                      have e2 := hh.2.2.2 y y0 (by omega)
                      exact q3 (by rw [← e1, ← e2, q])
                    by_cases q6 : y + 1 < (a.length : Int)
                    · exact ev_pos q6 (ev_neg (by simp) (hfalse hfb))
                    · exact ev_neg q6 (hfalse hfb)
                · refine ev_neg q (ihe (y + 1) (by omega) (by omega) fun j j0 j1 q4 => ?_)
                  by_cases q5 : j = y
                  · rw [q5] at q4; exact absurd q4 q
                  · exact hy j j0 (by omega) q4
            exact inner a.length 0 (by omega) (by omega) (fun j _ _ => by omega)
      have start : ∀ s : Bool, (s = true → Valid a ∧ Valid b ∧ a.length = b.length) → (s = false → fin a b = false) → Ev (fun k => dataflowlaw02_PartitionFiner.j1 k a b s) true := by
        intro s h1 h2
        refine ev_unf ?_
        simp only [dataflowlaw02_PartitionFiner.j1]
        exact outer a.length s 0 (by omega) (by omega) (fun q => ⟨(h1 q).1, (h1 q).2.1, (h1 q).2.2, fun i _ _ => by omega⟩) h2
      refine Ev.bind (rcheck_ev a) ?_
      by_cases ca : chk a = 0
      · refine ev_pos ca (Ev.bind (rcheck_ev b) ?_)
        by_cases cb : chk b = 0
        · refine ev_pos cb (start _ (fun q => ⟨chk_valid.1 ca, chk_valid.1 cb, by simp at q; omega⟩) (fun q => ?_))
          simp at q
          have : a.length ≠ b.length := by omega
          simp [fin, this]
        · exact ev_neg cb (start false (fun q => by simp at q) (fun _ => by simp [fin, cb]))
      · exact ev_neg ca (start false (fun q => by simp at q) (fun _ => by simp [fin, ca]))
  simp only [dataflowlaw02_PartitionFiner.f]
  by_cases c : (a.length : Int) > 60
  · exact ev_pos c (far true (fun q => by simp at q))
  · exact ev_neg c (far _ (fun q => by simp at q; omega))

/-! ### Of is the finest -/
theorem jn_valid {P : List Int} (h : Valid P) {x y : Int} (x0 : 0 ≤ x) (x1 : x < P.length) (y0 : 0 ≤ y) (y1 : y < P.length) : Valid (jn P x y) := by
  have := (Inv.refl_ h).join x0 x1 y0 y1
  exact this.valid (by rw [List.length_set]; exact h.le)
/-- In q, a member's class is that of its root in P. -/
structure Under (P q : List Int) : Prop where
  v : Valid P
  len : P.length = q.length
  un : ∀ i : Int, 0 ≤ i → i < P.length → rd q (rd P i) = rd q i
theorem jns_finest (q : List Int) (l : List S35) : ∀ P : List Int, Under P q → (∀ d ∈ l, inB q.length d = true ∧ rd q d.f0 = rd q d.f1) →
    Under (jns P l) q ∧ (∀ i j : Int, 0 ≤ i → i < P.length → 0 ≤ j → j < P.length → rd P i = rd P j → rd (jns P l) i = rd (jns P l) j) ∧ ∀ d ∈ l, rd (jns P l) d.f0 = rd (jns P l) d.f1 := by
  induction l with
  | nil => intro P h hl; exact ⟨h, fun i j _ _ _ _ e => e, fun d hd => by simp at hd⟩
  | cons d l ih =>
    intro P h hl
    obtain ⟨hb, hq⟩ := hl d (by simp)
    simp only [inB, Bool.and_eq_true, decide_eq_true_eq] at hb
    obtain ⟨⟨x0, x1⟩, y0, y1⟩ := hb
    rw [← h.len] at x1 y1
    have hj := fun (i : Int) (h0 : 0 ≤ i) (h1 : i < P.length) => rd_jn P d.f0 d.f1 h0 h1
    have hv := jn_valid h.v x0 x1 y0 y1
    have ux := h.un _ x0 x1
    have uy := h.un _ y0 y1
    have hM : (mx (rd P d.f0) (rd P d.f1) = rd P d.f0 ∧ mn (rd P d.f0) (rd P d.f1) = rd P d.f1) ∨ (mx (rd P d.f0) (rd P d.f1) = rd P d.f1 ∧ mn (rd P d.f0) (rd P d.f1) = rd P d.f0) := by unfold mx mn; omega
    have h' : Under (jn P d.f0 d.f1) q := by
      refine ⟨hv, by rw [jn_length]; exact h.len, fun i i0 i1 => ?_⟩
      rw [jn_length] at i1
      rw [hj i i0 i1]
      split
      · rename_i e
        rw [← h.un i i0 i1, e]
        rcases hM with ⟨e1, e2⟩ | ⟨e1, e2⟩
        · rw [e1, e2, ux, uy, hq]
        · rw [e1, e2, ux, uy, hq]
      · exact h.un i i0 i1
    obtain ⟨r1, r2, r3⟩ := ih (jn P d.f0 d.f1) h' (fun d' hd' => hl d' (by simp [hd']))
    rw [jn_length] at r2
    have step : ∀ i j : Int, 0 ≤ i → i < P.length → 0 ≤ j → j < P.length → rd P i = rd P j → rd (jn P d.f0 d.f1) i = rd (jn P d.f0 d.f1) j := by
      intro i j i0 i1 j0 j1 e
      rw [hj i i0 i1, hj j j0 j1, e]
    refine ⟨r1, fun i j i0 i1 j0 j1 e => r2 i j i0 i1 j0 j1 (step i j i0 i1 j0 j1 e), fun d' hd' => ?_⟩
    rcases List.mem_cons.1 hd' with rfl | hd'
    · refine r2 _ _ x0 x1 y0 y1 ?_
      rw [hj _ x0 x1, hj _ y0 y1]
      rcases hM with ⟨e1, e2⟩ | ⟨e1, e2⟩
      · rw [e1, e2, if_pos rfl]; split <;> rfl
      · rw [e1, e2, if_pos rfl]; split <;> rfl
    · exact r3 d' hd'
theorem idl_valid {n : Nat} (h : n ≤ 8192) : Valid (idl n) := (idl_inv n).valid (by rw [idl_length]; exact h)
theorem idl_under {q : List Int} (h : q.length ≤ 8192) : Under (idl q.length) q :=
  ⟨idl_valid h, idl_length _, fun i h0 h1 => by rw [idl_length] at h1; rw [rd_idl h0 h1]⟩
theorem finest_ev (l : List S35) (q : List Int) : Ev (fun k => dataflowlaw02_PartitionFinest.f k l q) true := by
  have tail : ∀ c : Bool, (c = false → l.length ≤ 300 ∧ q.length ≤ 300 ∧ Valid q) → Ev (fun k => dataflowlaw02_PartitionFinest.j0 k l q c) true := by
    intro c hc
    refine ev_unf ?_
    simp only [dataflowlaw02_PartitionFinest.j0]
    cases c with
    | true => exact ev_pos (by trivial) awake_bind
    | false =>
      obtain ⟨hl, hq, vq⟩ := hc rfl
      refine ev_neg (by simp) ?_
      have fin2 : (∀ d ∈ l, inB q.length d = true ∧ rd q d.f0 = rd q d.f1) → Ev (fun k => dataflowlaw02_PartitionFinest.l0 k l q (l.length : Int)) true := by
        intro hp
        obtain ⟨r1, r2, r3⟩ := jns_finest q l (idl q.length) (idl_under vq.le) hp
        have hs : ofSpec (q.length : Int) l = (jns (idl q.length) l, 0) := by
          unfold ofSpec
          rw [if_neg (by omega), if_pos (List.all_eq_true.2 fun d hd => (hp d hd).1)]
          rfl
        generalize jns (idl q.length) l = P at *
        refine ev_unf ?_
        simp only [dataflowlaw02_PartitionFinest.l0]
        refine ev_neg (by omega) (Ev.bind (f := fun k (bt : List Int × Int) => _) (of_ev _ l (by omega)) ?_)
        rw [hs]
        have hlen := r1.len
        refine ev_pos (by trivial) (ev_pos (by show (P.length : Int) = _; omega) ?_)
        refine Ev.bind (check_ev P) (ev_pos (chk_valid.2 r1.v) (Ev.bind (finer_ev P q) ?_))
        rw [show fin P q = true from fin_iff.2 ⟨r1.v, vq, r1.len, fun j j0 j1 => r1.un j j0 j1⟩]
        refine ev_unf ?_
        simp only [dataflowlaw02_PartitionFinest.j2]
        refine ev_neg (by simp) ?_
        have l2 : ∀ (d : Nat) (i : Int), 0 ≤ i → i + d = l.length → Ev (fun k => dataflowlaw02_PartitionFinest.l2 k l P i) true := by
          intro d
          induction d with
          | zero =>
            intro i i0 i1
            refine ev_unf ?_
            simp only [dataflowlaw02_PartitionFinest.l2]
            exact ev_neg (by omega) awake_bind
          | succ d ih =>
            intro i i0 i1
            refine ev_unf ?_
            simp only [dataflowlaw02_PartitionFinest.l2]
            have hm : rd_T35 l i ∈ l := List.drop_subset i.toNat l (by rw [drop_at i0 (by omega)]; simp)
            obtain ⟨hb, _⟩ := hp _ hm
            simp only [inB, Bool.and_eq_true, decide_eq_true_eq] at hb
            refine ev_pos (by omega) (ev_pos i0 (Ev.bind (same_ev P _ _) (ev_pos ?_ ?_)))
            · rw [sam_iff]
              exact ⟨r1.v, by omega, by omega, r3 _ hm⟩
            · rw [wrap_up i0 (by omega)]
              exact ih (i + 1) (by omega) (by omega)
        have l1 : ∀ (d : Nat) (i : Int), 0 ≤ i → i + d = P.length → Ev (fun k => dataflowlaw02_PartitionFinest.l1 k l q P i) true := by
          intro d
          induction d with
          | zero =>
            intro i i0 i1
            refine ev_unf ?_
            simp only [dataflowlaw02_PartitionFinest.l1]
            exact ev_neg (by omega) (l2 l.length 0 (by omega) (by omega))
          | succ d ih =>
            intro i i0 i1
            have := r1.v.lo i i0 (by omega)
            have := r1.v.hi i i0 (by omega)
            refine ev_unf ?_
            simp only [dataflowlaw02_PartitionFinest.l1]
            refine ev_pos (by omega) (ev_pos i0 (ev_pos (by omega) (ev_pos (by omega) (ev_pos (by omega) (ev_pos (r1.un i i0 (by omega)) ?_)))))
            rw [wrap_up i0 (by omega)]
            exact ih (i + 1) (by omega) (by omega)
        exact l1 P.length 0 (by omega) (by omega)
      have look : ∀ (d : Nat) (i : Int), 0 ≤ i → i + d = l.length → (∀ d ∈ l.take i.toNat, inB q.length d = true ∧ rd q d.f0 = rd q d.f1) → Ev (fun k => dataflowlaw02_PartitionFinest.l0 k l q i) true := by
        intro d
        induction d with
        | zero =>
          intro i i0 i1 h
          obtain rfl : i = l.length := by omega
          exact fin2 (fun d hd => h d (by rw [List.take_of_length_le (by omega)]; exact hd))
        | succ d ih =>
          intro i i0 i1 h
          refine ev_unf ?_
          simp only [dataflowlaw02_PartitionFinest.l0]
          refine ev_pos (by omega) (ev_pos i0 (Ev.bind (rsame_ev q _ _) ?_))
          by_cases c : sam q (rd_T35 l i).f0 (rd_T35 l i).f1 = true
          · refine ev_pos c ?_
            rw [wrap_up i0 (by omega)]
            refine ih (i + 1) (by omega) (by omega) fun d hd => ?_
            have h2 : i.toNat < l.length := by omega
            rw [show (i + 1).toNat = i.toNat + 1 by omega, List.take_succ_eq_append_getElem h2, List.mem_append] at hd
            rcases hd with hd | hd
            · exact h d hd
            · have e : d = rd_T35 l i := by
                rw [List.mem_singleton] at hd
                rw [hd]; unfold rd_T35
                rw [List.getD_eq_getElem?_getD, List.getElem?_eq_getElem h2]; rfl
              rw [sam_iff] at c
              rw [e]
              refine ⟨?_, c.2.2.2⟩
              simp only [inB, Bool.and_eq_true, decide_eq_true_eq]
              exact ⟨c.2.1, c.2.2.1⟩
          · exact ev_neg c awake_bind
      exact look l.length 0 (by omega) (by omega) (fun d hd => by simp at hd)
  simp only [dataflowlaw02_PartitionFinest.f]
  by_cases c : (l.length : Int) > 300
  · exact ev_pos c (tail true (fun q => by simp at q))
  · refine ev_neg c ?_
    by_cases d : (q.length : Int) > 300
    · exact ev_pos d (tail true (fun q => by simp at q))
    · refine ev_neg d (Ev.bind (rcheck_ev q) (tail _ (fun e => ⟨by omega, by omega, chk_valid.1 (by simpa using e)⟩)))
end Go.Proofs.Ytjemjpakgpdonaa.PAll
