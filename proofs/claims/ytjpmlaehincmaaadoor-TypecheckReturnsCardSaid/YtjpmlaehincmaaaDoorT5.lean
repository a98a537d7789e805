import Derived.Test.YtjpmlaehincmaaaDoorT4
/-! TypecheckReturns: the plain law. -/
namespace Go.Proofs.YtjpmlaehincmaaaDoor.Cx
open Go.RowKit Go.Proofs.YtjpmlaehincmaaaDoorW.PrintWords Go.Proofs.YtjpmlaehincmaaaDoorW.PrintLast Go.Proofs.YtjpmlaehincmaaaDoorW.PrintMore
attribute [local go_sem] max2_int min2_int max_two min_two max_three min_three max_four min_four   -- for this text's walks alone
set_option linter.unusedVariables false
set_option linter.unusedSimpArgs false

theorem ev_unf {α : Type} {g : Nat → Option α} {r : α} (h : Ev (fun k => g (k + 1)) r) : Ev g r := Ev.step (fun _ => rfl) h
theorem ev_pos {α : Type} {c : Prop} [Decidable c] {A B : Nat → Option α} {r : α} (h : c) (k : Ev A r) : Ev (fun n => if c then A n else B n) r := by
  simp only [if_pos h]; exact k
theorem ev_neg {α : Type} {c : Prop} [Decidable c] {A B : Nat → Option α} {r : α} (h : ¬ c) (k : Ev B r) : Ev (fun n => if c then A n else B n) r := by
  simp only [if_neg h]; exact k
theorem wrap_up {i : Int} (h0 : 0 ≤ i) (h1 : i < 9223372036854775807) : wrap64 (i + 1) = i + 1 := by unfold wrap64; omega
/-- Statements whose lists are no longer than memory allows. -/
inductive Good44 : S44 → Prop
  | mk (x : S44) (h4 : x.f4.length ≤ maxLen) (g4 : ∀ y, y ∈ x.f4 → Good44 y) (h5 : x.f5.length ≤ maxLen) (g5 : ∀ y, y ∈ x.f5 → Good44 y) : Good44 x
mutual
/-- Whether no way leads past a statement. -/
def stops : S44 → Bool
  | ⟨a, _, _, _, l, m⟩ => a == 8 || a == 7 || ((a == 4 || a == 6) && (anyStops l && anyStops m))
def anyStops : List S44 → Bool
  | [] => false
  | x :: r => stops x || anyStops r
end
theorem stops_eq (x : S44) : stops x = (x.f0 == 8 || x.f0 == 7 || ((x.f0 == 4 || x.f0 == 6) && (anyStops x.f4 && anyStops x.f5))) := by
  cases x; simp only [stops]
theorem anyStops_append : ∀ (l m : List S44), anyStops (l ++ m) = (anyStops l || anyStops m) := by
  intro l
  induction l with
  | nil => intro m; simp [anyStops]
  | cons x l ih => intro m; simp [anyStops, ih, Bool.or_assoc]
theorem drop_cons {l : List S44} {i : Int} (h0 : 0 ≤ i) (h : i < l.length) : l.drop i.toNat = rd_T44 l i :: l.drop (i + 1).toNat := by
  have h2 : i.toNat < l.length := by omega
  have e : (i + 1).toNat = i.toNat + 1 := by omega
  rw [e, List.drop_eq_getElem_cons h2]
  congr 1
  unfold rd_T44
  simp [h2]
theorem rd_mem {l : List S44} {i : Int} (h0 : 0 ≤ i) (h : i < l.length) : rd_T44 l i ∈ l := by
  have h2 : i.toNat < l.length := by omega
  unfold rd_T44
  simp [h2]
theorem tc_loop (l : List S44) (hl : l.length ≤ maxLen) (hq : ∀ x, x ∈ l → Ev (fun k => typecheck_Returns.f k x.f4) (anyStops x.f4) ∧ Ev (fun k => typecheck_Returns.f k x.f5) (anyStops x.f5)) :
    ∀ (n : Nat) (i : Int), 0 ≤ i → i + n = l.length → Ev (fun k => typecheck_Returns.l0 k l (l.length : Int) i) (anyStops (l.drop i.toNat)) := by
  have hl2 : (l.length : Int) ≤ 9223372036854775807 := by simp only [maxLen] at hl; omega
  intro n
  induction n with
  | zero =>
    intro i h0 h1
    refine ev_unf ?_
    simp only [typecheck_Returns.l0]
    refine ev_neg (by omega) ?_
    rw [List.drop_of_length_le (by omega)]
    exact Ev.now _
  | succ n ih =>
    intro i h0 h1
    have hx := ih (i + 1) (by omega) (by omega)
    have hm := hq _ (rd_mem (l := l) h0 (by omega))
    rw [drop_cons h0 (by omega)]
    generalize hX : rd_T44 l i = X at hm
    refine ev_unf ?_
    simp only [typecheck_Returns.l0, hX]
    refine ev_pos (by omega) (ev_pos h0 (ev_pos (by omega) ?_))
    have hs := stops_eq X
    simp only [anyStops]
    by_cases c8 : X.f0 = 8
    · refine ev_pos c8 (ev_unf ?_)
      simp only [typecheck_Returns.j1]
      refine ev_pos (by simpa using c8) ?_
      have : stops X = true := by rw [hs, beq_iff_eq.2 c8]; rfl
      rw [this, Bool.true_or]
      exact Ev.now _
    · refine ev_neg c8 (ev_unf ?_)
      simp only [typecheck_Returns.j1]
      by_cases c7 : X.f0 = 7
      · refine ev_pos (by simpa using c7) ?_
        have : stops X = true := by rw [hs, beq_iff_eq.2 c7]; simp
        rw [this, Bool.true_or]
        exact Ev.now _
      · refine ev_neg (by simpa using c7) ?_
        rw [beq_eq_false_iff_ne.2 c8, beq_eq_false_iff_ne.2 c7, Bool.false_or, Bool.false_or] at hs
        have inner : ∀ (b : Bool), (X.f0 == 4 || X.f0 == 6) = b → Ev (fun k => typecheck_Returns.j2 k l (l.length : Int) i b X.f0 X.f1 X.f2 X.f3 X.f4 X.f5) (stops X || anyStops (l.drop (i + 1).toNat)) := by
          intro b hb
          rw [hb] at hs
          refine ev_unf ?_
          simp only [typecheck_Returns.j2]
          cases b with
          | false =>
            refine ev_neg (by simp) ?_
            rw [hs, Bool.false_and, Bool.false_or, wrap_up h0 (by omega)]
            exact hx
          | true =>
            refine ev_pos rfl (Ev.bind hm.1 ?_)
            rw [hs, Bool.true_and]
            cases anyStops X.f4 with
            | false =>
              refine ev_neg (by simp) ?_
              rw [Bool.false_and, Bool.false_or, wrap_up h0 (by omega)]
              exact hx
            | true =>
              refine ev_pos rfl (Ev.bind hm.2 ?_)
              cases anyStops X.f5 with
              | false =>
                refine ev_neg (by simp) ?_
                rw [Bool.and_false, Bool.false_or, wrap_up h0 (by omega)]
                exact hx
              | true =>
                refine ev_pos rfl ?_
                exact Ev.now _
        by_cases c4 : X.f0 = 4
        · refine ev_pos c4 (inner _ ?_)
          rw [beq_iff_eq.2 c4]; rfl
        · refine ev_neg c4 (inner _ ?_)
          rw [beq_eq_false_iff_ne.2 c4]; rfl
theorem ref_loop (l : List S44) (hl : l.length ≤ maxLen) (hq : ∀ x, x ∈ l → Ev (fun k => dataflowref11_Returns.f k x.f4) (anyStops x.f4) ∧ Ev (fun k => dataflowref11_Returns.f k x.f5) (anyStops x.f5)) :
    ∀ (n : Nat) (i : Int), 0 ≤ i → i + n = l.length → Ev (fun k => dataflowref11_Returns.l0 k l i) (anyStops (l.drop i.toNat)) := by
  have hl2 : (l.length : Int) ≤ 9223372036854775807 := by simp only [maxLen] at hl; omega
  intro n
  induction n with
  | zero =>
    intro i h0 h1
    refine ev_unf ?_
    simp only [dataflowref11_Returns.l0]
    refine ev_neg (by omega) ?_
    rw [List.drop_of_length_le (by omega)]
    exact Ev.now _
  | succ n ih =>
    intro i h0 h1
    have hx := ih (i + 1) (by omega) (by omega)
    have hm := hq _ (rd_mem (l := l) h0 (by omega))
    rw [drop_cons h0 (by omega)]
    generalize hX : rd_T44 l i = X at hm
    refine ev_unf ?_
    simp only [dataflowref11_Returns.l0, hX]
    refine ev_pos (by omega) (ev_pos h0 ?_)
    have hs := stops_eq X
    simp only [anyStops]
    by_cases c8 : X.f0 = 8
    · refine ev_pos c8 (ev_unf ?_)
      simp only [dataflowref11_Returns.j1]
      refine ev_pos trivial ?_
      have : stops X = true := by rw [hs, beq_iff_eq.2 c8]; rfl
      rw [this, Bool.true_or]
      exact Ev.now _
    · refine ev_neg c8 (ev_unf ?_)
      simp only [dataflowref11_Returns.j1]
      by_cases c7 : X.f0 = 7
      · refine ev_pos (by simpa using c7) ?_
        have : stops X = true := by rw [hs, beq_iff_eq.2 c7]; simp
        rw [this, Bool.true_or]
        exact Ev.now _
      · refine ev_neg (by simpa using c7) ?_
        rw [beq_eq_false_iff_ne.2 c8, beq_eq_false_iff_ne.2 c7, Bool.false_or, Bool.false_or] at hs
        have inner : (X.f0 == 4 || X.f0 == 6) = true → Ev (fun k => (dataflowref11_Returns.f k X.f4).bind fun t107 => (if t107 = true then ((dataflowref11_Returns.f k X.f5).bind fun t108 => (if t108 = true then (some true) else (dataflowref11_Returns.l0 k l (wrap64 (i + 1))))) else (dataflowref11_Returns.l0 k l (wrap64 (i + 1))))) (stops X || anyStops (l.drop (i + 1).toNat)) := by
          intro hb
          rw [hb, Bool.true_and] at hs
          rw [hs]
          refine Ev.bind hm.1 ?_
          cases anyStops X.f4 with
          | false =>
            refine ev_neg (by simp) ?_
            rw [Bool.false_and, Bool.false_or, wrap_up h0 (by omega)]
            exact hx
          | true =>
            refine ev_pos rfl (Ev.bind hm.2 ?_)
            cases anyStops X.f5 with
            | false =>
              refine ev_neg (by simp) ?_
              rw [Bool.and_false, Bool.false_or, wrap_up h0 (by omega)]
              exact hx
            | true =>
              refine ev_pos rfl ?_
              exact Ev.now _
        by_cases c4 : X.f0 = 4
        · exact ev_pos c4 (inner (by rw [beq_iff_eq.2 c4]; rfl))
        · refine ev_neg c4 ?_
          by_cases c6 : X.f0 = 6
          · exact ev_pos c6 (inner (by rw [beq_iff_eq.2 c6]; simp))
          · refine ev_neg c6 ?_
            rw [beq_eq_false_iff_ne.2 c4, beq_eq_false_iff_ne.2 c6, Bool.or_self, Bool.false_and] at hs
            rw [hs, Bool.false_or, wrap_up h0 (by omega)]
            exact hx
theorem tc_list (l : List S44) (hl : l.length ≤ maxLen) (hq : ∀ x, x ∈ l → Ev (fun k => typecheck_Returns.f k x.f4) (anyStops x.f4) ∧ Ev (fun k => typecheck_Returns.f k x.f5) (anyStops x.f5)) : Ev (fun k => typecheck_Returns.f k l) (anyStops l) := by
  refine ev_unf ?_
  simp only [typecheck_Returns.f]
  have := tc_loop l hl hq l.length 0 (by omega) (by omega)
  simpa using this
theorem ref_list (l : List S44) (hl : l.length ≤ maxLen) (hq : ∀ x, x ∈ l → Ev (fun k => dataflowref11_Returns.f k x.f4) (anyStops x.f4) ∧ Ev (fun k => dataflowref11_Returns.f k x.f5) (anyStops x.f5)) : Ev (fun k => dataflowref11_Returns.f k l) (anyStops l) := by
  refine ev_unf ?_
  simp only [dataflowref11_Returns.f]
  have := ref_loop l hl hq l.length 0 (by omega) (by omega)
  simpa using this
theorem tc_good (x : S44) (h : Good44 x) : Ev (fun k => typecheck_Returns.f k x.f4) (anyStops x.f4) ∧ Ev (fun k => typecheck_Returns.f k x.f5) (anyStops x.f5) := by
  induction h with
  | mk x h4 g4 h5 g5 ih4 ih5 => exact ⟨tc_list _ h4 ih4, tc_list _ h5 ih5⟩
theorem ref_good (x : S44) (h : Good44 x) : Ev (fun k => dataflowref11_Returns.f k x.f4) (anyStops x.f4) ∧ Ev (fun k => dataflowref11_Returns.f k x.f5) (anyStops x.f5) := by
  induction h with
  | mk x h4 g4 h5 g5 ih4 ih5 => exact ⟨ref_list _ h4 ih4, ref_list _ h5 ih5⟩
theorem law_loop (l : List S44) (hl : l.length ≤ maxLen) (hg : ∀ x, x ∈ l → Good44 x) : ∀ (n : Nat) (i : Int), 0 ≤ i → i + n = l.length → Ev (fun k => dataflowlaw11_TypecheckReturns.l0 k l i) true := by
  have hl2 : (l.length : Int) ≤ 9223372036854775807 := by simp only [maxLen] at hl; omega
  intro n
  induction n with
  | zero =>
    intro i h0 h1
    refine ev_unf ?_
    simp only [dataflowlaw11_TypecheckReturns.l0]
    refine ev_neg (by omega) ?_
    exact Ev.now _
  | succ n ih =>
    intro i h0 h1
    have hx := ih (i + 1) (by omega) (by omega)
    refine ev_unf ?_
    simp only [dataflowlaw11_TypecheckReturns.l0]
    rw [wrap_up h0 (by omega)]
    refine ev_pos (by omega) (ev_pos h0 (ev_pos (by omega) ?_))
    have e1 := tc_list (l.take i.toNat) (by rw [List.length_take]; omega) fun x hx => tc_good x (hg x (List.mem_of_mem_take hx))
    have e2 := tc_list l hl fun x hx => tc_good x (hg x hx)
    refine Ev.bind e1 ?_
    have hap : anyStops l = (anyStops (l.take i.toNat) || anyStops (l.drop i.toNat)) := by rw [← anyStops_append, List.take_append_drop]
    cases hb : anyStops (l.take i.toNat) with
    | false => exact ev_neg (by simp) hx
    | true =>
      rw [hb, Bool.true_or] at hap
      rw [hap] at e2
      exact ev_pos rfl (Ev.bind e2 (ev_pos rfl hx))
/-- The plain law. -/
theorem returns_ev (l : List S44) (hl : l.length ≤ maxLen) (hg : ∀ x, x ∈ l → Good44 x) : Ev (fun k => dataflowlaw11_TypecheckReturns.f k l) true := by
  unfold dataflowlaw11_TypecheckReturns.f
  refine Ev.bind (tc_list l hl fun x hx => tc_good x (hg x hx)) (Ev.bind (ref_list l hl fun x hx => ref_good x (hg x hx)) ?_)
  refine ev_neg (by simp) (law_loop l hl hg l.length 0 (by omega) (by omega))
end Go.Proofs.YtjpmlaehincmaaaDoor.Cx
