import Derived.Test.YtmocdgcjglmmjaaGreatDoorV4
/-! ContextCalls: the plain law. -/
namespace Go.Proofs.YtmocdgcjglmmjaaGreatDoor.Cx
open Go.RowKit Go.Proofs.YtmocdgcjglmmjaaGreatDoorW.PrintWords Go.Proofs.YtmocdgcjglmmjaaGreatDoorW.PrintLast Go.Proofs.YtmocdgcjglmmjaaGreatDoorW.PrintMore
attribute [local go_sem] max2_int min2_int max_two min_two max_three min_three max_four min_four   -- for this text's walks alone
set_option linter.unusedVariables false
set_option linter.unusedSimpArgs false

/-! ### Rounds -/
theorem ev_unf {α : Type} {g : Nat → Option α} {r : α} (h : Ev (fun k => g (k + 1)) r) : Ev g r := Ev.step (fun _ => rfl) h
theorem ev_pos {α : Type} {c : Prop} [Decidable c] {A B : Nat → Option α} {r : α} (h : c) (k : Ev A r) : Ev (fun n => if c then A n else B n) r := by
  simp only [if_pos h]; exact k
theorem ev_neg {α : Type} {c : Prop} [Decidable c] {A B : Nat → Option α} {r : α} (h : ¬ c) (k : Ev B r) : Ev (fun n => if c then A n else B n) r := by
  simp only [if_neg h]; exact k
theorem wrap_up {i : Int} (h0 : 0 ≤ i) (h1 : i < 140737488355328) : wrap64 (i + 1) = i + 1 := by unfold wrap64; omega
/-! ### Fit -/
theorem fit_l3 {G : Prop} (x8 x9 : Int) (l0 : List S76) (l1 : List S73) (a2 : Int) (x10 : List S81) (hx : x10.length ≤ 100)
    (hc : ∃ b, Ev (fun k => dataflowref17_Fit.l2 k 100 x8 (wrap64 (x9 + 1)) l0 l1 a2) b ∧ (b = true → G)) :
    ∀ (n : Nat) (i : Int), 0 ≤ i → i + n = x10.length → ∃ b, Ev (fun k => dataflowref17_Fit.l3 k 100 x8 x9 x10 i l0 l1 a2) b ∧ (b = true → G) := by
  intro n
  induction n with
  | zero =>
    intro i h0 h1
    obtain ⟨b, hb, hg⟩ := hc
    refine ⟨b, ev_unf ?_, hg⟩
    simp only [dataflowref17_Fit.l3]
    exact ev_neg (by omega) hb
  | succ n ih =>
    intro i h0 h1
    by_cases h : (((rd_T81 x10 i).f7).length : Int) > 20
    · refine ⟨false, ev_unf ?_, by simp⟩
      simp only [dataflowref17_Fit.l3]
      exact ev_pos (by omega) (ev_pos h0 (ev_pos h (Ev.now _)))
    · obtain ⟨b, hb, hg⟩ := ih (i + 1) (by omega) (by omega)
      refine ⟨b, ev_unf ?_, hg⟩
      simp only [dataflowref17_Fit.l3]
      refine ev_pos (by omega) (ev_pos h0 (ev_neg h ?_))
      rw [wrap_up h0 (by omega)]
      exact hb
theorem fit_l2 (l0 : List S76) (l1 : List S73) (a2 : Int) (hl : l1.length ≤ 20) :
    ∀ (n : Nat) (x8 i : Int), 0 ≤ i → i + n = l1.length → ∃ b, Ev (fun k => dataflowref17_Fit.l2 k 100 x8 i l0 l1 a2) b ∧ (b = true → ∀ j : Int, i ≤ j → j < l1.length → ((rd_T73 l1 j).f6).length ≤ 100) := by
  intro n
  induction n with
  | zero =>
    intro x8 i h0 h1
    refine ⟨decide (x8 ≤ 100), ev_unf ?_, fun _ j h2 h3 => by omega⟩
    simp only [dataflowref17_Fit.l2]
    exact ev_neg (by omega) (Ev.now _)
  | succ n ih =>
    intro x8 i h0 h1
    by_cases h : (((rd_T73 l1 i).f6).length : Int) > 100
    · refine ⟨false, ev_unf ?_, by simp⟩
      simp only [dataflowref17_Fit.l2]
      refine ev_pos (by omega) (ev_pos h0 (ev_pos h (ev_unf ?_)))
      simp only [dataflowref17_Fit.j5]
      exact ev_pos trivial (Ev.now _)
    · by_cases h4 : (((rd_T73 l1 i).f4).length : Int) > 100
      · refine ⟨false, ev_unf ?_, by simp⟩
        simp only [dataflowref17_Fit.l2]
        refine ev_pos (by omega) (ev_pos h0 (ev_neg h (ev_unf ?_)))
        simp only [dataflowref17_Fit.j5]
        exact ev_pos (decide_eq_true h4) (Ev.now _)
      · have hc : ∃ b, Ev (fun k => dataflowref17_Fit.l2 k 100 (wrap64 (x8 + (((rd_T73 l1 i).f6).length : Int))) (wrap64 (i + 1)) l0 l1 a2) b ∧ (b = true → ∀ j : Int, i ≤ j → j < l1.length → ((rd_T73 l1 j).f6).length ≤ 100) := by
          rw [wrap_up h0 (by omega)]
          obtain ⟨b, hb, hg⟩ := ih (wrap64 (x8 + (((rd_T73 l1 i).f6).length : Int))) (i + 1) (by omega) (by omega)
          refine ⟨b, hb, fun e j h2 h3 => ?_⟩
          by_cases hj : j = i
          · subst hj; omega
          · exact hg e j (by omega) h3
        obtain ⟨b, hb, hg⟩ := fit_l3 _ i l0 l1 a2 ((rd_T73 l1 i).f6) (by omega) hc ((rd_T73 l1 i).f6).length 0 (by omega) (by omega)
        refine ⟨b, ev_unf ?_, hg⟩
        simp only [dataflowref17_Fit.l2]
        refine ev_pos (by omega) (ev_pos h0 (ev_neg h (ev_unf ?_)))
        simp only [dataflowref17_Fit.j5]
        exact ev_neg (by simpa using h4) hb
theorem fit_l1 {G : Prop} (x5 : Int) (l0 : List S76) (l1 : List S73) (a2 : Int) (b0 b1 : ByteArray) (b2 : List S128) (b3 : List S79) (hx : b3.length ≤ 20)
    (hc : ∃ b, Ev (fun k => dataflowref17_Fit.l0 k 100 (wrap64 (x5 + 1)) l0 l1 a2) b ∧ (b = true → G)) :
    ∀ (n : Nat) (i : Int), 0 ≤ i → i + n = b3.length → ∃ b, Ev (fun k => dataflowref17_Fit.l1 k 100 x5 i l0 l1 a2 b0 b1 b2 b3) b ∧ (b = true → G) := by
  intro n
  induction n with
  | zero =>
    intro i h0 h1
    obtain ⟨b, hb, hg⟩ := hc
    refine ⟨b, ev_unf ?_, hg⟩
    simp only [dataflowref17_Fit.l1]
    exact ev_neg (by omega) hb
  | succ n ih =>
    intro i h0 h1
    by_cases h : (((rd_T79 b3 i).f2).length : Int) > 20
    · refine ⟨false, ev_unf ?_, by simp⟩
      simp only [dataflowref17_Fit.l1]
      exact ev_pos (by omega) (ev_pos h0 (ev_pos h (Ev.now _)))
    · obtain ⟨b, hb, hg⟩ := ih (i + 1) (by omega) (by omega)
      refine ⟨b, ev_unf ?_, hg⟩
      simp only [dataflowref17_Fit.l1]
      refine ev_pos (by omega) (ev_pos h0 (ev_neg h ?_))
      rw [wrap_up h0 (by omega)]
      exact hb
theorem fit_l0 (l0 : List S76) (l1 : List S73) (a2 : Int) (hl : l1.length ≤ 20) (hm : l0.length ≤ 12) :
    ∀ (n : Nat) (i : Int), 0 ≤ i → i + n = l0.length → ∃ b, Ev (fun k => dataflowref17_Fit.l0 k 100 i l0 l1 a2) b ∧ (b = true → ∀ j : Int, 0 ≤ j → j < l1.length → ((rd_T73 l1 j).f6).length ≤ 100) := by
  intro n
  induction n with
  | zero =>
    intro i h0 h1
    obtain ⟨b, hb, hg⟩ := fit_l2 l0 l1 a2 hl l1.length 0 0 (by omega) (by omega)
    refine ⟨b, ev_unf ?_, hg⟩
    simp only [dataflowref17_Fit.l0]
    exact ev_neg (by omega) hb
  | succ n ih =>
    intro i h0 h1
    by_cases h : (((rd_T76 l0 i).f2).length : Int) > 20
    · refine ⟨false, ev_unf ?_, by simp⟩
      simp only [dataflowref17_Fit.l0]
      refine ev_pos (by omega) (ev_pos h0 (ev_pos h (ev_unf ?_)))
      simp only [dataflowref17_Fit.j2]
      exact ev_pos trivial (Ev.now _)
    · by_cases h4 : (((rd_T76 l0 i).f3).length : Int) > 20
      · refine ⟨false, ev_unf ?_, by simp⟩
        simp only [dataflowref17_Fit.l0]
        refine ev_pos (by omega) (ev_pos h0 (ev_neg h (ev_unf ?_)))
        simp only [dataflowref17_Fit.j2]
        exact ev_pos (decide_eq_true h4) (Ev.now _)
      · have hc := ih (i + 1) (by omega) (by omega)
        rw [← wrap_up h0 (by omega)] at hc
        obtain ⟨b, hb, hg⟩ := fit_l1 i l0 l1 a2 ((rd_T76 l0 i).f0) ((rd_T76 l0 i).f1) ((rd_T76 l0 i).f2) ((rd_T76 l0 i).f3) (by omega) hc ((rd_T76 l0 i).f3).length 0 (by omega) (by omega)
        refine ⟨b, ev_unf ?_, hg⟩
        simp only [dataflowref17_Fit.l0]
        refine ev_pos (by omega) (ev_pos h0 (ev_neg h (ev_unf ?_)))
        simp only [dataflowref17_Fit.j2]
        exact ev_neg (by simpa using h4) hb
theorem fit_ev (l0 : List S76) (l1 : List S73) (a2 : Int) : ∃ b, Ev (fun k => dataflowref17_Fit.f k l0 l1 a2 100) b ∧ (b = true → l1.length ≤ 20 ∧ ∀ j : Int, 0 ≤ j → j < l1.length → ((rd_T73 l1 j).f6).length ≤ 100) := by
  by_cases h1 : (l1.length : Int) > 20
  · refine ⟨false, ?_, by simp⟩
    unfold dataflowref17_Fit.f
    refine ev_pos h1 (ev_unf ?_)
    simp only [dataflowref17_Fit.j0]
    exact ev_pos trivial (Ev.now _)
  · by_cases h2 : (l0.length : Int) > 12
    · refine ⟨false, ?_, by simp⟩
      unfold dataflowref17_Fit.f
      refine ev_neg h1 (ev_unf ?_)
      simp only [dataflowref17_Fit.j0]
      exact ev_pos (decide_eq_true h2) (Ev.now _)
    · obtain ⟨b, hb, hg⟩ := fit_l0 l0 l1 a2 (by omega) (by omega) l0.length 0 (by omega) (by omega)
      refine ⟨b, ?_, fun e => ⟨by omega, hg e⟩⟩
      unfold dataflowref17_Fit.f
      refine ev_neg h1 (ev_unf ?_)
      simp only [dataflowref17_Fit.j0]
      exact ev_neg (by simpa using h2) hb
/-! ### Calls -/
def use1 (f i : Int) (x : S81) : List S48 := if x.f0 = 9 then [⟨f, i, x.f2⟩] else if x.f0 = 10 then [⟨f, i, -1⟩] else []
def inner (f : Int) (code : List S81) : Nat → Int → List S48
  | 0, _ => []
  | n + 1, i => use1 f i (rd_T81 code i) ++ inner f code n (i + 1)
def outer (fs : List S73) : Nat → Int → List S48
  | 0, _ => []
  | n + 1, f => inner f ((rd_T73 fs f).f6) ((rd_T73 fs f).f6).length 0 ++ outer fs n (f + 1)
theorem use1_len (f i : Int) (x : S81) : (use1 f i x).length ≤ 1 := by
  unfold use1; split
  · simp
  · split <;> simp
theorem inner_len (f : Int) (code : List S81) : ∀ (n : Nat) (i : Int), (inner f code n i).length ≤ n := by
  intro n
  induction n with
  | zero => intro i; simp [inner]
  | succ n ih => intro i; have := ih (i + 1); have := use1_len f i (rd_T81 code i); simp only [inner, List.length_append]; omega
theorem outer_len (fs : List S73) (hc : ∀ j : Int, 0 ≤ j → j < fs.length → ((rd_T73 fs j).f6).length ≤ 100) : ∀ (n : Nat) (f : Int), 0 ≤ f → f + n = fs.length → (outer fs n f).length ≤ 100 * n := by
  intro n
  induction n with
  | zero => intro f _ _; simp [outer]
  | succ n ih =>
    intro f h0 h1
    have := ih (f + 1) (by omega) (by omega)
    have := inner_len f ((rd_T73 fs f).f6) ((rd_T73 fs f).f6).length 0
    have := hc f h0 (by omega)
    simp only [outer, List.length_append]; omega
theorem c_l1 (fs : List S73) (L f : Int) (code : List S81) (hcode : code.length ≤ 100) (v : List S48) :
    ∀ (n : Nat) (i : Int) (x3 : List S48), 0 ≤ i → i + n = code.length → x3.length + n ≤ 100000 → Ev (fun k => context_Calls.l0 k (x3 ++ inner f code n i) fs L (wrap64 (f + 1))) v →
      Ev (fun k => context_Calls.l1 k x3 f fs L f code (code.length : Int) i) v := by
  intro n
  induction n with
  | zero =>
    intro i x3 h0 h1 h2 hv
    refine ev_unf ?_
    simp only [context_Calls.l1]
    refine ev_neg (by omega) ?_
    simpa [inner] using hv
  | succ n ih =>
    intro i x3 h0 h1 h2 hv
    refine ev_unf ?_
    simp only [context_Calls.l1]
    refine ev_pos (by omega) (ev_pos h0 (ev_pos (by omega) ?_))
    rw [wrap_up h0 (by omega)]
    simp only [inner, use1] at hv
    by_cases c9 : (rd_T81 code i).f0 = 9
    · rw [if_pos c9] at hv
      refine ev_pos c9 (ev_pos (by omega) (ih (i + 1) _ (by omega) (by omega) (by simp only [List.length_append, List.length_cons, List.length_nil]; omega) ?_))
      simpa using hv
    · rw [if_neg c9] at hv
      refine ev_neg c9 ?_
      by_cases c10 : (rd_T81 code i).f0 = 10
      · rw [if_pos c10] at hv
        refine ev_pos c10 (ev_pos (by omega) (ih (i + 1) _ (by omega) (by omega) (by simp only [List.length_append, List.length_cons, List.length_nil]; omega) ?_))
        simpa using hv
      · rw [if_neg c10] at hv
        refine ev_neg c10 (ih (i + 1) _ (by omega) (by omega) (by omega) ?_)
        simpa using hv
theorem c_l0 (fs : List S73) (hl : fs.length ≤ 20) (hc : ∀ j : Int, 0 ≤ j → j < fs.length → ((rd_T73 fs j).f6).length ≤ 100) :
    ∀ (n : Nat) (f : Int) (x3 : List S48), 0 ≤ f → f + n = fs.length → x3.length + 100 * n ≤ 2000 → Ev (fun k => context_Calls.l0 k x3 fs (fs.length : Int) f) (x3 ++ outer fs n f) := by
  intro n
  induction n with
  | zero =>
    intro f x3 h0 h1 h2
    refine ev_unf ?_
    simp only [context_Calls.l0]
    refine ev_neg (by omega) ?_
    simpa [outer] using Ev.now _
  | succ n ih =>
    intro f x3 h0 h1 h2
    refine ev_unf ?_
    simp only [context_Calls.l0]
    refine ev_pos (by omega) (ev_pos h0 (ev_pos (by omega) ?_))
    have h3 := hc f h0 (by omega)
    refine c_l1 fs _ f _ h3 _ ((rd_T73 fs f).f6).length 0 x3 (by omega) (by omega) (by omega) ?_
    rw [wrap_up h0 (by omega)]
    have h4 := inner_len f ((rd_T73 fs f).f6) ((rd_T73 fs f).f6).length 0
    have := ih (f + 1) (x3 ++ inner f ((rd_T73 fs f).f6) ((rd_T73 fs f).f6).length 0) (by omega) (by omega) (by simp only [List.length_append]; omega)
    simpa [outer] using this
theorem r_l1 (l0 : List S76) (fs : List S73) (a2 : Int) (f : Int) (hf0 : 0 ≤ f) (hf1 : f < fs.length) (hcode : ((rd_T73 fs f).f6).length ≤ 100) (v : List S48) :
    ∀ (n : Nat) (i : Int) (x3 : List S48), 0 ≤ i → i + n = ((rd_T73 fs f).f6).length → x3.length + n ≤ 100000 → Ev (fun k => dataflowref22_Calls.l0 k (x3 ++ inner f ((rd_T73 fs f).f6) n i) (wrap64 (f + 1)) l0 fs a2) v →
      Ev (fun k => dataflowref22_Calls.l1 k x3 f i l0 fs a2) v := by
  intro n
  induction n with
  | zero =>
    intro i x3 h0 h1 h2 hv
    refine ev_unf ?_
    simp only [dataflowref22_Calls.l1]
    refine ev_pos hf0 (ev_pos hf1 (ev_neg (by omega) ?_))
    simpa [inner] using hv
  | succ n ih =>
    intro i x3 h0 h1 h2 hv
    refine ev_unf ?_
    simp only [dataflowref22_Calls.l1]
    refine ev_pos hf0 (ev_pos hf1 (ev_pos (by omega) (ev_pos h0 ?_)))
    rw [wrap_up h0 (by omega)]
    simp only [inner, use1] at hv
    by_cases c9 : (rd_T81 ((rd_T73 fs f).f6) i).f0 = 9
    · rw [if_pos c9] at hv
      refine ev_pos c9 (ev_pos (by omega) ?_)
      simp only [Option.bind_some]
      refine ev_neg (by omega) (ih (i + 1) _ (by omega) (by omega) (by simp only [List.length_append, List.length_cons, List.length_nil]; omega) ?_)
      simpa using hv
    · rw [if_neg c9] at hv
      refine ev_neg c9 ?_
      by_cases c10 : (rd_T81 ((rd_T73 fs f).f6) i).f0 = 10
      · rw [if_pos c10] at hv
        refine ev_pos c10 (ev_pos (by omega) (ih (i + 1) _ (by omega) (by omega) (by simp only [List.length_append, List.length_cons, List.length_nil]; omega) ?_))
        simpa using hv
      · rw [if_neg c10] at hv
        refine ev_neg c10 (ih (i + 1) _ (by omega) (by omega) (by omega) ?_)
        simpa using hv
theorem r_l0 (l0 : List S76) (fs : List S73) (a2 : Int) (hl : fs.length ≤ 20) (hc : ∀ j : Int, 0 ≤ j → j < fs.length → ((rd_T73 fs j).f6).length ≤ 100) :
    ∀ (n : Nat) (f : Int) (x3 : List S48), 0 ≤ f → f + n = fs.length → x3.length + 100 * n ≤ 2000 → Ev (fun k => dataflowref22_Calls.l0 k x3 f l0 fs a2) (x3 ++ outer fs n f) := by
  intro n
  induction n with
  | zero =>
    intro f x3 h0 h1 h2
    refine ev_unf ?_
    simp only [dataflowref22_Calls.l0]
    refine ev_neg (by omega) ?_
    simpa [outer] using Ev.now _
  | succ n ih =>
    intro f x3 h0 h1 h2
    refine ev_unf ?_
    simp only [dataflowref22_Calls.l0]
    refine ev_pos (by omega) ?_
    have h3 := hc f h0 (by omega)
    refine r_l1 l0 fs a2 f h0 (by omega) h3 _ ((rd_T73 fs f).f6).length 0 x3 (by omega) (by omega) (by omega) ?_
    rw [wrap_up h0 (by omega)]
    have h4 := inner_len f ((rd_T73 fs f).f6) ((rd_T73 fs f).f6).length 0
    have := ih (f + 1) (x3 ++ inner f ((rd_T73 fs f).f6) ((rd_T73 fs f).f6).length 0) (by omega) (by omega) (by simp only [List.length_append]; omega)
    simpa [outer] using this
theorem same_l0 (v : List S48) (hv : v.length ≤ 2000) : ∀ (n : Nat) (i : Int), 0 ≤ i → i + n = v.length → Ev (fun k => dataflowlaw22_ContextCalls.l0 k v v (v.length : Int) i) true := by
  intro n
  induction n with
  | zero =>
    intro i h0 h1
    refine ev_unf ?_
    simp only [dataflowlaw22_ContextCalls.l0]
    refine ev_neg (by omega) ?_
    simpa [dataflowlaw22_awake.f] using Ev.now true
  | succ n ih =>
    intro i h0 h1
    refine ev_unf ?_
    simp only [dataflowlaw22_ContextCalls.l0]
    refine ev_pos (by omega) (ev_pos h0 (ev_pos (by omega) (ev_pos (by omega) (ev_neg (by simp) ?_))))
    rw [wrap_up h0 (by omega)]
    exact ih (i + 1) (by omega) (by omega)
/-- The plain law. -/
theorem calls_ev (l0 : List S76) (l1 : List S73) (a2 : Int) : Ev (fun k => dataflowlaw22_ContextCalls.f k l0 l1 a2) true := by
  obtain ⟨b, hb, hg⟩ := fit_ev l0 l1 a2
  unfold dataflowlaw22_ContextCalls.f
  refine Ev.bind hb ?_
  cases b with
  | false =>
    refine ev_neg (by simp) ?_
    simpa [dataflowlaw22_awake.f] using Ev.now true
  | true =>
    obtain ⟨hl, hc⟩ := hg rfl
    refine ev_pos rfl ?_
    have e1 : Ev (fun k => context_Calls.f k l0 l1 a2) (outer l1 l1.length 0) := by
      have := c_l0 l1 hl hc l1.length 0 [] (by omega) (by omega) (by simp only [List.length_nil]; omega)
      simpa [context_Calls.f] using this
    have e2 : Ev (fun k => dataflowref22_Calls.f k l0 l1 a2) (outer l1 l1.length 0) := by
      have := r_l0 l0 l1 a2 hl hc l1.length 0 [] (by omega) (by omega) (by simp only [List.length_nil]; omega)
      simpa [dataflowref22_Calls.f] using this
    refine Ev.bind e1 (Ev.bind e2 (ev_pos rfl ?_))
    have h5 := outer_len l1 hc l1.length 0 (by omega) (by omega)
    exact same_l0 (outer l1 l1.length 0) (by omega) (outer l1 l1.length 0).length 0 (by omega) (by omega)
end Go.Proofs.YtmocdgcjglmmjaaGreatDoor.Cx
