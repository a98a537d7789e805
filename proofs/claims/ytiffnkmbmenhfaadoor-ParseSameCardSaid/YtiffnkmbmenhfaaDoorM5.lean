import Derived.Test.YtiffnkmbmenhfaaDoorM4
import Derived.Orders
/-! An order that is left open: what the run over rows has checked. -/
namespace Go.Proofs.YtiffnkmbmenhfaaDoor.Run
open Go Go.RowKit
set_option linter.unusedVariables false
set_option linter.unusedSimpArgs false

section
variable {P : Program} {call : ACall} {ops : Array Oper}
/-- A step that leaves by a panic: nothing is left to be done but it. -/
def Fake (P : Program) (call : ACall) (ops : Array Oper) (s : Step) : Prop :=
  wantedE s.o ops s.a = true ∧ mainOp s.o = true ∧ lastAll ops s.i = true ∧ ∃ c a2 h2, aop P call s.o s.a s.h = some (.panic c, a2, h2)
def StepOk (P : Program) (call : ACall) (ops : Array Oper) (s : Step) : Prop :=
  (wantedE s.o ops s.a = true ∧ aop P call s.o s.a s.h = some (.normal, s.a', s.h')) ∨ ((wantedE s.o ops s.a = false ∨ Fake P call ops s) ∧ s.a' = s.a.put s.o.dst undef ∧ s.h' = s.h)
/-- How the steps end. -/
def Ends (P : Program) (call : ACall) (ops : Array Oper) (log : List Step) (e : Exit) (a1 : Env) (h1 : AH) (A : Env) (H : AH) : Prop :=
  (e = .normal ∧ A = a1 ∧ H = h1 ∧ ∀ (k : Nat) s, log[k]? = some s → ¬ Fake P call ops s) ∨
  (∃ c, e = .panic c ∧ (∃ (k : Nat) (s : Step), log[k]? = some s ∧ Fake P call ops s) ∧
    ∀ (k : Nat) s c' a2 h2, log[k]? = some s → Fake P call ops s → aop P call s.o s.a s.h = some (.panic c', a2, h2) → c' = c ∧ a2 = a1 ∧ h2 = h1)
theorem logOps_states : ∀ (l : List (Oper × Nat)) (a : Env) (h : AH) (log : List Step) (e : Exit) (a1 : Env) (h1 : AH), logOps P call ops l a h = some (log, e, a1, h1) →
    ∃ (A : Nat → Env) (H : Nat → AH), A 0 = a ∧ H 0 = h ∧ Ends P call ops log e a1 h1 (A log.length) (H log.length) ∧
      ∀ (k : Nat) s, log[k]? = some s → s.a = A k ∧ s.h = H k ∧ s.a' = A (k + 1) ∧ s.h' = H (k + 1) ∧ StepOk P call ops s ∧ (s.o, s.i) ∈ l := by
  intro l
  induction l with
  | nil =>
    intro a h log e a1 h1 hl
    simp only [logOps, Option.some.injEq, Prod.mk.injEq] at hl
    obtain ⟨rfl, rfl, rfl, rfl⟩ := hl
    exact ⟨fun _ => a, fun _ => h, rfl, rfl, .inl ⟨rfl, rfl, rfl, fun k s hs => by simp at hs⟩, fun k s hs => by simp at hs⟩
  | cons p rest ih =>
    intro a h log e a1 h1 hl
    have go : ∀ (a' : Env) (h' : AH), StepOk P call ops ⟨p.1, p.2, a, h, a', h'⟩ → ¬ Fake P call ops ⟨p.1, p.2, a, h, a', h'⟩ → (match logOps P call ops rest a' h' with
        | some (l, r) => some (⟨p.1, p.2, a, h, a', h'⟩ :: l, r)
        | none => none) = some (log, e, a1, h1) → ∃ (A : Nat → Env) (H : Nat → AH), A 0 = a ∧ H 0 = h ∧ Ends P call ops log e a1 h1 (A log.length) (H log.length) ∧
      ∀ (k : Nat) s, log[k]? = some s → s.a = A k ∧ s.h = H k ∧ s.a' = A (k + 1) ∧ s.h' = H (k + 1) ∧ StepOk P call ops s ∧ (s.o, s.i) ∈ p :: rest := by
      intro a' h' hok hnf hr
      cases hlr : logOps P call ops rest a' h' with
      | none => rw [hlr] at hr; simp at hr
      | some r =>
        obtain ⟨l', e2, a2, h2⟩ := r
        rw [hlr] at hr
        simp only [Option.some.injEq, Prod.mk.injEq] at hr
        obtain ⟨rfl, rfl, rfl, rfl⟩ := hr
        obtain ⟨A, H, e1, e2, e3, e5⟩ := ih a' h' l' _ a2 h2 hlr
        refine ⟨fun k => match k with
          | 0 => a
          | k + 1 => A k, fun k => match k with
          | 0 => h
          | k + 1 => H k, rfl, rfl, ?_, fun k s hs => ?_⟩
        · simp only [List.length_cons]
          rcases e3 with ⟨g1, g2, g3, g4⟩ | ⟨c, g1, ⟨k, s, g2, g3⟩, g4⟩
          · refine .inl ⟨g1, g2, g3, fun k s hs => ?_⟩
            cases k with
            | zero =>
              simp only [List.getElem?_cons_zero, Option.some.injEq] at hs
              subst hs
              exact hnf
            | succ k => exact g4 k s (by simpa using hs)
          · refine .inr ⟨c, g1, ⟨k + 1, s, by simpa using g2, g3⟩, fun k s c' a2 h2 hs hf hx => ?_⟩
            cases k with
            | zero =>
              simp only [List.getElem?_cons_zero, Option.some.injEq] at hs
              subst hs
              exact absurd hf hnf
            | succ k => exact g4 k s c' a2 h2 (by simpa using hs) hf hx
        · cases k with
          | zero =>
            simp only [List.getElem?_cons_zero, Option.some.injEq] at hs
            subst hs
            exact ⟨rfl, rfl, e1.symm, e2.symm, hok, List.mem_cons_self ..⟩
          | succ k =>
            obtain ⟨f1, f2, f3, f4, f5, f6⟩ := e5 k s (by simpa using hs)
            exact ⟨f1, f2, f3, f4, f5, List.mem_cons_of_mem _ f6⟩
    simp only [logOps] at hl
    cases hw : wantedE p.1 ops a with
    | false =>
      rw [hw] at hl
      exact go _ _ (.inr ⟨.inl hw, rfl, rfl⟩) (fun hf => by rw [hf.1] at hw; cases hw) hl
    | true =>
      rw [hw] at hl
      simp only at hl
      cases hx : aop P call p.1 a h with
      | none => rw [hx] at hl; simp at hl
      | some r =>
        obtain ⟨e', a', h'⟩ := r
        rw [hx] at hl
        cases e' with
        | normal => exact go _ _ (.inl ⟨hw, hx⟩) (fun hf => by obtain ⟨_, _, _, c, a2, h2, hy⟩ := hf; simp only at hy; rw [hx] at hy; simp at hy) hl
        | panic c =>
          cases rest with
          | cons _ _ => simp at hl
          | nil =>
            simp only at hl
            cases hm : mainOp p.1 && lastAll ops p.2 with
            | false => rw [hm] at hl; simp at hl
            | true =>
              rw [hm] at hl
              simp only [Option.some.injEq, Prod.mk.injEq] at hl
              obtain ⟨rfl, rfl, rfl, rfl⟩ := hl
              rw [Bool.and_eq_true] at hm
              have hf : Fake P call ops ⟨p.1, p.2, a, h, a.put p.1.dst undef, h⟩ := ⟨hw, hm.1, hm.2, c, a', h', hx⟩
              refine ⟨fun k => match k with
                | 0 => a
                | _ + 1 => a.put p.1.dst undef, fun _ => h, rfl, rfl, .inr ⟨c, rfl, ⟨0, _, rfl, hf⟩, fun k s c' a2 h2 hs _ hy => ?_⟩, fun k s hs => ?_⟩
              · cases k with
                | zero =>
                  simp only [List.getElem?_cons_zero, Option.some.injEq] at hs
                  subst hs
                  simp only at hy
                  rw [hx] at hy
                  simp only [Option.some.injEq, Prod.mk.injEq, Exit.panic.injEq] at hy
                  exact ⟨hy.1.symm, hy.2.1.symm, hy.2.2.symm⟩
                | succ k => simp at hs
              · cases k with
                | zero =>
                  simp only [List.getElem?_cons_zero, Option.some.injEq] at hs
                  subst hs
                  exact ⟨rfl, rfl, rfl, rfl, .inr ⟨.inr hf, rfl, rfl⟩, List.mem_cons_self ..⟩
                | succ k => simp at hs
        | _ => simp at hl
theorem lastAll_spec {ops : Array Oper} {i : Nat} (h : lastAll ops i = true) : i + 1 = ops.size ∧ ∀ j, j < i → ((Region.before ops).getD i 0).testBit j = true := by
  unfold lastAll at h
  rw [Bool.and_eq_true] at h
  refine ⟨Nat.eq_of_beq_eq_true h.1, fun j hj => ?_⟩
  have e := Nat.eq_of_beq_eq_true h.2
  have e2 : (Region.before ops).getD i 0 = 2 ^ i - 1 := by
    have : (Region.before ops).getD i 0 + 1 = 2 ^ i := e
    omega
  rw [e2, Nat.testBit_two_pow_sub_one]
  simpa using hj
theorem testBit_sub {x m : Nat} (h : (x &&& m == x) = true) (j : Nat) (hj : x.testBit j = true) : m.testBit j = true := by
  have e : x &&& m = x := by simpa using h
  rw [← e, Nat.testBit_and, Bool.and_eq_true] at hj
  exact hj.2
theorem logOk_facts (n : Nat) (b : Array Nat) : ∀ (l : List Step) (m mm : Nat), logOk n ops b l m mm = true →
    (∀ (k : Nat) s, l[k]? = some s → (∀ j, (b.getD s.i 0).testBit j = true → m.testBit j = true ∨ ∃ (k' : Nat) (q : Step), k' < k ∧ l[k']? = some q ∧ q.i = j) ∧
      (∀ j, mm.testBit j = true → (b.getD s.i 0).testBit j = true) ∧ (∀ (k' : Nat) (q : Step), k' < k → l[k']? = some q → mainOp q.o = true → (b.getD s.i 0).testBit q.i = true) ∧
      m.testBit s.i = false ∧ (∀ (k' : Nat) (q : Step), k' < k → l[k']? = some q → q.i ≠ s.i) ∧ (makes s.o.op = true → s.h.get s.h.next = none) ∧ s.h.next ≤ s.h'.next) ∧
    (∀ i, i < n → m.testBit i = true ∨ ∃ (k : Nat) (s : Step), l[k]? = some s ∧ s.i = i) := by
  intro l
  induction l with
  | nil =>
    intro m mm h
    refine ⟨fun k s hs => by simp at hs, fun i hi => .inl ?_⟩
    have e : m = 2 ^ n - 1 := by simpa [logOk] using h
    rw [e, Nat.testBit_two_pow_sub_one]
    simpa using hi
  | cons s l ih =>
    intro m mm h
    simp only [logOk, Bool.and_eq_true] at h
    obtain ⟨⟨⟨⟨⟨h1, h2⟩, h3⟩, h4⟩, h5⟩, h6⟩ := h
    obtain ⟨i1, i2⟩ := ih _ _ h6
    have hor : ∀ (x i j : Nat), (x ||| 2 ^ i).testBit j = (x.testBit j || decide (i = j)) := fun x i j => by rw [Nat.testBit_or, Nat.testBit_two_pow]
    constructor
    · intro k q hq
      cases k with
      | zero =>
        simp only [List.getElem?_cons_zero, Option.some.injEq] at hq
        subst hq
        refine ⟨fun j hj => .inl (testBit_sub h1 j hj), fun j hj => testBit_sub h2 j hj, fun k' q hk => absurd hk (Nat.not_lt_zero _), by simpa using h3, fun k' q hk => absurd hk (Nat.not_lt_zero _), fun hm => ?_, Nat.le_of_ble_eq_true h5⟩
        rw [hm] at h4
        simpa using h4
      | succ k =>
        obtain ⟨j1, j2, j3, j4, j5, j6, j7⟩ := i1 k q (by simpa using hq)
        rw [hor, Bool.or_eq_false_iff] at j4
        refine ⟨fun j hj => ?_, fun j hj => ?_, fun k' x hk hx hm => ?_, j4.1, fun k' x hk hx => ?_, j6, j7⟩
        · rcases j1 j hj with h | ⟨k', x, h1', h2', h3'⟩
          · rw [hor, Bool.or_eq_true] at h
            rcases h with h | h
            · exact .inl h
            · exact .inr ⟨0, s, Nat.succ_pos _, rfl, by simpa using h⟩
          · exact .inr ⟨k' + 1, x, by omega, by simpa using h2', h3'⟩
        · refine j2 j ?_
          split
          · rw [hor, hj]; rfl
          · exact hj
        · cases k' with
          | zero =>
            simp only [List.getElem?_cons_zero, Option.some.injEq] at hx
            subst hx
            refine j2 _ ?_
            rw [hm]
            simp only
            rw [hor]
            simp
          | succ k' => exact j3 k' x (by omega) (by simpa using hx) hm
        · cases k' with
          | zero =>
            simp only [List.getElem?_cons_zero, Option.some.injEq] at hx
            subst hx
            simpa using j4.2
          | succ k' => exact j5 k' x (by omega) (by simpa using hx)
    · intro i hi
      rcases i2 i hi with h | ⟨k, q, h1', h2'⟩
      · rw [hor, Bool.or_eq_true] at h
        rcases h with h | h
        · exact .inl h
        · exact .inr ⟨0, s, rfl, by simpa using h⟩
      · exact .inr ⟨k + 1, q, by simpa using h1', h2'⟩
theorem stable_facts (b : Array Nat) : ∀ (l : List Step), stable P call ops b l = true → ∀ (k k' : Nat) (s q : Step), l[k]? = some s → l[k']? = some q → k < k' → heapOp s.o.op = false → wantedE s.o ops s.a = true →
    mainOp q.o = true → (b.getD q.i 0).testBit s.i = false → sameOut s.o s.a' (aop P call s.o s.a q.h') = true := by
  intro l
  induction l with
  | nil => intro _ k k' s q hs; simp at hs
  | cons x l ih =>
    intro h k k' s q hs hq hk hh hw hm hb
    simp only [stable, Bool.and_eq_true] at h
    cases k' with
    | zero => omega
    | succ k' =>
      have hq' : l[k']? = some q := by simpa using hq
      cases k with
      | zero =>
        simp only [List.getElem?_cons_zero, Option.some.injEq] at hs
        subst hs
        have h1 := h.1
        rw [hh, hw] at h1
        simp only [Bool.false_or, Bool.not_true, List.all_eq_true] at h1
        have h2 := h1 q (List.mem_of_getElem? hq')
        rw [hm, hb] at h2
        simpa using h2
      | succ k => exact ih h.2 k k' s q (by simpa using hs) hq' (by omega) hh hw hm hb
theorem depMask_spec (b : Array Nat) (j : Nat) : ∀ (l : List Edge), (depMask b l).testBit j = true → ∃ e ∈ l, Region.binds .any e = true ∧ (e.on = j ∨ (b.getD e.on 0).testBit j = true) := by
  intro l
  induction l with
  | nil => intro h; simp [depMask] at h
  | cons e l ih =>
    intro h
    simp only [depMask] at h
    cases hb : Region.binds .any e with
    | true =>
      rw [hb] at h
      simp only [Nat.testBit_or, Nat.testBit_two_pow, Bool.or_eq_true, decide_eq_true_eq] at h
      rcases h with h | h
      · exact ⟨e, List.mem_cons_self .., hb, h⟩
      · obtain ⟨e', h1, h2⟩ := ih h
        exact ⟨e', List.mem_cons_of_mem _ h1, h2⟩
    | false =>
      rw [hb] at h
      obtain ⟨e', h1, h2⟩ := ih h
      exact ⟨e', List.mem_cons_of_mem _ h1, h2⟩
theorem slotsOk_spec (b : Array Nat) (p : Oper × Nat) : ∀ (l : List (Oper × Nat)), slotsOk ops b p l = true → ∀ q ∈ l, p.2 ≠ q.2 → ∀ d, q.1.dst = some d → p.1.dst ≠ some d ∧ (d ∈ lookedAt ops p.1 → apart b p.2 q.2 = true) := by
  intro l
  induction l with
  | nil => intro _ q hq; simp at hq
  | cons x l ih =>
    intro h q hq hne d hd
    simp only [slotsOk] at h
    split at h
    · rename_i hc
      cases hq with
      | head =>
        rw [if_neg hne, hd] at hc
        simp only at hc
        cases h1 : p.1.dst == some d with
        | true => rw [h1] at hc; simp at hc
        | false =>
          rw [h1] at hc
          refine ⟨by simpa using h1, fun hl => ?_⟩
          rw [List.contains_iff_mem.2 hl] at hc
          exact hc
      | tail _ hq => exact ih h q hq hne d hd
    · simp at h
theorem order_facts (h : orderOk ops = true) (i : Nat) (o : Oper) (ho : ops[i]? = some o) : (∀ e ∈ o.after, Region.binds .any e = true → e.on < i) ∧
    (∀ j, ((Region.before ops).getD i 0).testBit j = true → ∃ e ∈ o.after, Region.binds .any e = true ∧ (e.on = j ∨ ((Region.before ops).getD e.on 0).testBit j = true)) ∧
    ∀ (i' : Nat) (o' : Oper) d, ops[i']? = some o' → i ≠ i' → o'.dst = some d → o.dst ≠ some d ∧ (d ∈ lookedAt ops o → ((Region.before ops).getD (max i i') 0).testBit (min i i') = true) := by
  unfold orderOk at h
  simp only [List.all_eq_true] at h
  have mem : ∀ (i : Nat) (o : Oper), ops[i]? = some o → (o, i) ∈ ops.toList.zipIdx := fun i o ho => by
    rw [List.mem_iff_getElem?]
    exact ⟨i, by simp [List.getElem?_zipIdx, ho]⟩
  have h1 := h (o, i) (mem i o ho)
  simp only [Bool.and_eq_true, List.all_eq_true] at h1
  obtain ⟨⟨h2, h3⟩, h4⟩ := h1
  refine ⟨fun e he hb => ?_, fun j hj => ?_, fun i' o' d ho' hne hd => ?_⟩
  · have := h2 e (by simpa using he)
    rw [hb] at this
    simpa using this
  · obtain ⟨e, h5, h6⟩ := depMask_spec _ j _ (testBit_sub h3 j hj)
    exact ⟨e, by simpa using h5, h6⟩
  · exact slotsOk_spec _ _ _ h4 (o', i') (mem i' o' ho') hne d hd
end
end Go.Proofs.YtiffnkmbmenhfaaDoor.Run
/-! An order that is left open: one operation after the other, in any order. -/
namespace Go.Proofs.YtiffnkmbmenhfaaDoor.Run
open Go Go.RowKit
set_option linter.unusedVariables false
set_option linter.unusedSimpArgs false

structure Drawn (P : Program) (call : ACall) (ops : Array Oper) (n : Nat) (log : List Step) (A : Nat → Env) (H : Nat → AH) : Prop where
  st : ∀ (k : Nat) s, log[k]? = some s → s.a = A k ∧ s.h = H k ∧ s.a' = A (k + 1) ∧ s.h' = H (k + 1) ∧ StepOk P call ops s ∧ ops[s.i]? = some s.o
  ahead : ∀ (k : Nat) s, log[k]? = some s → ∀ j, ((Region.before ops).getD s.i 0).testBit j = true → ∃ (k' : Nat) (q : Step), k' < k ∧ log[k']? = some q ∧ q.i = j
  mains : ∀ (k : Nat) s (k' : Nat) q, log[k]? = some s → k' < k → log[k']? = some q → mainOp q.o = true → ((Region.before ops).getD s.i 0).testBit q.i = true
  ne : ∀ (k : Nat) s (k' : Nat) q, log[k]? = some s → k' < k → log[k']? = some q → q.i ≠ s.i
  fresh : ∀ (k : Nat) s, log[k]? = some s → makes s.o.op = true → (H k).get (H k).next = none
  next : ∀ (k : Nat) s, log[k]? = some s → (H k).next ≤ (H (k + 1)).next
  all : ∀ i, i < ops.size → ∃ (k : Nat) (s : Step), log[k]? = some s ∧ s.i = i
  stab : ∀ (k k' : Nat) (s q : Step), log[k]? = some s → log[k']? = some q → k < k' → heapOp s.o.op = false → wantedE s.o ops s.a = true →
    mainOp q.o = true → ((Region.before ops).getD q.i 0).testBit s.i = false → sameOut s.o s.a' (aop P call s.o s.a q.h') = true
  ord : orderOk ops = true
  ok : ∀ o ∈ ops, operOk P n o = true
  small : n < 1000000
theorem Env.eval_put_ne (a : Env) {dst : Option Tmp} {v : Value} {t : Tmp} (h : dst ≠ some t) (hd : ∀ d, dst = some d → d < 1073741824) : (a.put dst v).eval (.tmp t) = a.eval (.tmp t) := by
  cases dst with
  | none => rfl
  | some d => rw [Env.eval_put _ _ _ (hd d rfl), if_neg (fun e => h (by rw [e]))]
theorem Env.put_defers (a : Env) (dst : Option Tmp) (v : Value) : (a.put dst v).defers = a.defers := by cases dst <;> cases a <;> rfl
theorem Act.put_tmp {n : Nat} {a' : Act} (hs : n ≤ a'.tmps.size) {dst : Option Tmp} (hd : ∀ d, dst = some d → d < n) (v : Value) (t : Tmp) : (a'.put dst v).tmps.getD t undef = if dst = some t then v else a'.tmps.getD t undef := by
  cases dst with
  | none => rw [if_neg (by simp)]; rfl
  | some d =>
    have hsz : d < a'.tmps.size := Nat.lt_of_lt_of_le (hd d rfl) hs
    by_cases ht : d = t
    · subst ht
      rw [if_pos rfl]
      simp [Act.put, Array.getD, hsz]
    · rw [if_neg (by simpa using ht)]
      simp only [Act.put, Array.getD_eq_getD_getElem?, Array.getElem?_setIfInBounds_ne ht]
theorem Act.put_size (a' : Act) (dst : Option Tmp) (v : Value) : (a'.put dst v).tmps.size = a'.tmps.size := by cases dst <;> simp [Act.put]
theorem Act.put_defs (a' : Act) (dst : Option Tmp) (v : Value) : (a'.put dst v).defers = a'.defers := by cases dst <;> rfl
theorem mainOp_false {o : Oper} (h : mainOp o = false) : heapOp o.op = false ∨ makes o.op = true := by
  unfold mainOp at h
  cases h1 : heapOp o.op with
  | false => exact .inl rfl
  | true => rw [h1] at h; simp at h; exact .inr h
theorem mainOp_true {o : Oper} (h : mainOp o = true) : makes o.op = false := by
  unfold mainOp at h
  simp only [Bool.and_eq_true, Bool.not_eq_true'] at h
  exact h.2
section
variable {P : Program} {call : ACall} {ops : Array Oper} {n : Nat} {log : List Step} {A : Nat → Env} {H : Nat → AH}
theorem Drawn.inj (D : Drawn P call ops n log A H) {k k' : Nat} {s q : Step} (hs : log[k]? = some s) (hq : log[k']? = some q) (h : s.i = q.i) : k = k' := by
  rcases Nat.lt_trichotomy k k' with hk | hk | hk
  · exact absurd h (D.ne _ _ _ _ hq hk hs)
  · exact hk
  · exact absurd h.symm (D.ne _ _ _ _ hs hk hq)
theorem Drawn.mem (D : Drawn P call ops n log A H) {k : Nat} {s : Step} (hs : log[k]? = some s) : operOk P n s.o = true := D.ok _ (Array.mem_of_getElem? (D.st k s hs).2.2.2.2.2)
theorem Drawn.lt (D : Drawn P call ops n log A H) {k : Nat} {s : Step} (hs : log[k]? = some s) : s.i < ops.size := (Array.getElem?_eq_some_iff.1 (D.st k s hs).2.2.2.2.2).1
theorem Drawn.dst (D : Drawn P call ops n log A H) {k : Nat} {s : Step} (hs : log[k]? = some s) : ∀ d, s.o.dst = some d → d < n := (operOk_spec (D.mem hs)).2
theorem Drawn.dst' (D : Drawn P call ops n log A H) {k : Nat} {s : Step} (hs : log[k]? = some s) : ∀ d, s.o.dst = some d → d < 1073741824 := fun d hd => Nat.lt_trans (D.dst hs d hd) (Nat.lt_trans D.small (by decide))
theorem Drawn.env_step (D : Drawn P call ops n log A H) {k : Nat} {s : Step} (hs : log[k]? = some s) {t : Tmp} (ht : s.o.dst ≠ some t) : (A (k + 1)).eval (.tmp t) = (A k).eval (.tmp t) := by
  obtain ⟨e1, e2, e3, e4, hok, _⟩ := D.st k s hs
  rw [← e1, ← e3]
  rcases hok with ⟨_, h⟩ | ⟨_, h, _⟩
  · rcases aop_shape h with ⟨v, h⟩ | ⟨_, d, h⟩
    · rw [h]; exact Env.eval_put_ne _ ht (D.dst' hs)
    · rw [h]; exact Env.eval_put_ne ⟨s.a.t, d :: s.a.defers⟩ ht (D.dst' hs)
  · rw [h]; exact Env.eval_put_ne _ ht (D.dst' hs)
theorem Drawn.val (D : Drawn P call ops n log A H) (t : Tmp) (k : Nat) : ∀ (d : Nat), k + d ≤ log.length → (∀ (j : Nat) s, k ≤ j → j < k + d → log[j]? = some s → s.o.dst ≠ some t) → (A (k + d)).eval (.tmp t) = (A k).eval (.tmp t) := by
  intro d
  induction d with
  | zero => intro _ _; rfl
  | succ d ih =>
    intro hl h
    have hlt : k + d < log.length := by omega
    have hs : log[k + d]? = some log[k + d] := List.getElem?_eq_getElem hlt
    rw [← Nat.add_assoc, D.env_step hs (h _ _ (by omega) (by omega) hs)]
    exact ih (by omega) fun j s h1 h2 => h j s h1 (by omega)
theorem Drawn.val' (D : Drawn P call ops n log A H) (t : Tmp) {k k' : Nat} (hk : k ≤ k') (hl : k' ≤ log.length) (h : ∀ (j : Nat) s, k ≤ j → j < k' → log[j]? = some s → s.o.dst ≠ some t) : (A k').eval (.tmp t) = (A k).eval (.tmp t) := by
  have e : k' = k + (k' - k) := by omega
  rw [e] at hl h ⊢
  exact D.val t k _ hl h
theorem Drawn.float (D : Drawn P call ops n log A H) {k : Nat} {s : Step} (hs : log[k]? = some s) (hm : mainOp s.o = false) :
    Sub (H k) (H (k + 1)) ∧ (∀ j, j < (H k).next → (H (k + 1)).get j = (H k).get j) ∧ ((H k).next ≤ AH.lim → (H (k + 1)).next ≤ AH.lim) ∧ (A (k + 1)).defers = (A k).defers ∧
      (makes s.o.op = true → wantedE s.o ops s.a = true → (H (k + 1)).next = (H k).next + 1) := by
  obtain ⟨e1, e2, e3, e4, hok, _⟩ := D.st k s hs
  rcases hok with ⟨hw, h⟩ | ⟨hw, h, hh⟩
  · rcases mainOp_false hm with h0 | h0
    · have h1 := (aop_reader h0 h).1
      rw [e2, e4] at h1
      rw [h1]
      refine ⟨Sub.refl _, fun _ _ => rfl, id, ?_, fun hmk => ?_⟩
      · rcases aop_shape h with ⟨v, h⟩ | ⟨hx, d, h⟩
        · rw [← e3, h, Env.put_defers, e1]
        · rw [h0] at hx; cases hx
      · cases hop : s.o.op <;> rw [hop] at hmk h0 <;> simp [makes, heapOp] at hmk h0
    · obtain ⟨⟨hl, cs, hp⟩, v, hv⟩ := maker_push h0 h
      rw [e2, e4] at hp
      rw [e2] at hl
      have hget := fun q => AH.get_push (H k) q (.rw cs) hl
      have hfr := D.fresh k s hs h0
      rw [hp]
      refine ⟨fun q r hq => ?_, fun j hj => ?_, fun _ => by rw [AH.next_push]; exact hl, by rw [← e3, hv, Env.put_defers, e1], fun _ _ => AH.next_push _ _⟩
      · rw [hget, if_neg]
        · exact hq
        · rintro rfl; rw [hfr] at hq; cases hq
      · rw [hget, if_neg (by omega)]
  · rw [e2, e4] at hh
    rw [hh]
    refine ⟨Sub.refl _, fun _ _ => rfl, id, by rw [← e3, h, Env.put_defers, e1], fun _ hw' => ?_⟩
    rcases hw with hw | hw
    · rw [hw] at hw'; cases hw'
    · rw [hw.2.1] at hm; cases hm
theorem Drawn.mono (D : Drawn P call ops n log A H) (k : Nat) : ∀ (d : Nat), k + d ≤ log.length → (H k).next ≤ (H (k + d)).next := by
  intro d
  induction d with
  | zero => intro _; exact Nat.le_refl _
  | succ d ih =>
    intro hl
    have hlt : k + d < log.length := by omega
    exact Nat.le_trans (ih (by omega)) (D.next (k + d) _ (List.getElem?_eq_getElem hlt))
theorem Drawn.mono' (D : Drawn P call ops n log A H) {k k' : Nat} (hk : k ≤ k') (hl : k' ≤ log.length) : (H k).next ≤ (H k').next := by
  have e : k' = k + (k' - k) := by omega
  rw [e] at hl ⊢
  exact D.mono k _ hl
theorem Drawn.seg (D : Drawn P call ops n log A H) (k : Nat) : ∀ (d : Nat), k + d ≤ log.length → (∀ (j : Nat) s, k ≤ j → j < k + d → log[j]? = some s → mainOp s.o = false) →
    Sub (H k) (H (k + d)) ∧ (∀ j, j < (H k).next → (H (k + d)).get j = (H k).get j) ∧ ((H k).next ≤ AH.lim → (H (k + d)).next ≤ AH.lim) ∧ (A (k + d)).defers = (A k).defers := by
  intro d
  induction d with
  | zero => intro _ _; exact ⟨Sub.refl _, fun _ _ => rfl, id, rfl⟩
  | succ d ih =>
    intro hl h
    have hlt : k + d < log.length := by omega
    have hs : log[k + d]? = some log[k + d] := List.getElem?_eq_getElem hlt
    obtain ⟨h1, h2, h3, h4⟩ := ih (by omega) fun j s a b => h j s a (by omega)
    obtain ⟨g1, g2, g3, g4, _⟩ := D.float hs (h _ _ (by omega) (by omega) hs)
    refine ⟨h1.trans g1, fun j hj => ?_, fun hx => g3 (h3 hx), g4.trans h4⟩
    exact (g2 j (Nat.lt_of_lt_of_le hj (D.mono k d (by omega)))).trans (h2 j hj)
theorem Drawn.seg' (D : Drawn P call ops n log A H) {k k' : Nat} (hk : k ≤ k') (hl : k' ≤ log.length) (h : ∀ (j : Nat) s, k ≤ j → j < k' → log[j]? = some s → mainOp s.o = false) :
    Sub (H k) (H k') ∧ (∀ j, j < (H k).next → (H k').get j = (H k).get j) ∧ ((H k).next ≤ AH.lim → (H k').next ≤ AH.lim) ∧ (A k').defers = (A k).defers := by
  have e : k' = k + (k' - k) := by omega
  rw [e] at hl h ⊢
  exact D.seg k _ hl h
/-- The next operation that changes memory, or the end. -/
theorem nextMain (log : List Step) : ∀ (d k : Nat), k + d = log.length → ∃ K, k ≤ K ∧ K ≤ log.length ∧ (∀ (j : Nat) s, k ≤ j → j < K → log[j]? = some s → mainOp s.o = false) ∧ ∀ s, log[K]? = some s → mainOp s.o = true := by
  intro d
  induction d with
  | zero => exact fun k hk => ⟨k, Nat.le_refl _, by omega, fun j s h1 h2 => by omega, fun s hs => by rw [List.getElem?_eq_none (by omega)] at hs; cases hs⟩
  | succ d ih =>
    intro k hk
    have hlt : k < log.length := by omega
    have hs : log[k]? = some log[k] := List.getElem?_eq_getElem hlt
    cases hm : mainOp log[k].o with
    | true => exact ⟨k, Nat.le_refl _, by omega, fun j s h1 h2 => by omega, fun s h => by rw [hs] at h; injection h with h; rw [← h]; exact hm⟩
    | false =>
      obtain ⟨K, h1, h2, h3, h4⟩ := ih (k + 1) (by omega)
      refine ⟨K, by omega, h2, fun j s hj hK hx => ?_, h4⟩
      by_cases hjk : j = k
      · subst hjk
        rw [hs] at hx
        injection hx with hx
        rw [← hx]
        exact hm
      · exact h3 j s (by omega) hK hx
/-- The last operation that changes memory. -/
theorem lastMain (log : List Step) (k : Nat) : ∀ (d : Nat), k + d ≤ log.length → (∀ (j : Nat) s, k ≤ j → j < k + d → log[j]? = some s → mainOp s.o = false) ∨
    ∃ (p : Nat) (q : Step), k ≤ p ∧ p < k + d ∧ log[p]? = some q ∧ mainOp q.o = true ∧ ∀ (j : Nat) s, p < j → j < k + d → log[j]? = some s → mainOp s.o = false := by
  intro d
  induction d with
  | zero => exact fun _ => .inl fun j s h1 h2 => by omega
  | succ d ih =>
    intro hl
    have hlt : k + d < log.length := by omega
    have hs : log[k + d]? = some log[k + d] := List.getElem?_eq_getElem hlt
    cases hm : mainOp log[k + d].o with
    | true => exact .inr ⟨k + d, _, by omega, by omega, hs, hm, fun j s h1 h2 => by omega⟩
    | false =>
      have one : ∀ (j : Nat) s, j = k + d → log[j]? = some s → mainOp s.o = false := fun j s hj hx => by
        subst hj
        rw [hs] at hx
        injection hx with hx
        rw [← hx]
        exact hm
      rcases ih (by omega) with h | ⟨p, q, h1, h2, h3, h4, h5⟩
      · left
        intro j s hj hK hx
        by_cases hjk : j = k + d
        · exact one j s hjk hx
        · exact h j s hj (by omega) hx
      · right
        refine ⟨p, q, h1, by omega, h3, h4, fun j s hj hK hx => ?_⟩
        by_cases hjk : j = k + d
        · exact one j s hjk hx
        · exact h5 j s hj (by omega) hx
/-! ### slots -/
structure EnvI (n : Nat) (log : List Step) (A : Nat → Env) (ρ : Ren) (done : Nat → Prop) (a' : Act) : Prop where
  w : ∀ (k : Nat) s, log[k]? = some s → done s.i → ∀ t, s.o.dst = some t → VRel ρ ((A (k + 1)).eval (.tmp t)) (a'.tmps.getD t undef)
  u : ∀ t, (∀ (k : Nat) s, log[k]? = some s → done s.i → s.o.dst ≠ some t) → VRel ρ ((A 0).eval (.tmp t)) (a'.tmps.getD t undef)
  sz : n ≤ a'.tmps.size
theorem Drawn.one (D : Drawn P call ops n log A H) {k k' : Nat} {s q : Step} (hs : log[k]? = some s) (hq : log[k']? = some q) {t : Tmp} (h1 : s.o.dst = some t) (h2 : q.o.dst = some t) : k = k' := by
  refine D.inj hs hq (Classical.byContradiction fun hne => ?_)
  have := (order_facts D.ord s.i s.o (D.st _ _ hs).2.2.2.2.2).2.2 q.i q.o t (D.st _ _ hq).2.2.2.2.2 hne h2
  exact this.1 h1
/-- What an operation looks at is there when it is ready. -/
theorem Drawn.slot (D : Drawn P call ops n log A H) {ρ : Ren} {done : Nat → Prop} {a' : Act} (E : EnvI n log A ρ done a') (i4 : ∀ i j, done i → ((Region.before ops).getD i 0).testBit j = true → done j)
    {k : Nat} {s : Step} (hs : log[k]? = some s) (hnd : ¬ done s.i) (hr : ∀ j, ((Region.before ops).getD s.i 0).testBit j = true → done j) {t : Tmp} (ht : t ∈ lookedAt ops s.o) : VRel ρ ((A k).eval (.tmp t)) (a'.tmps.getD t undef) := by
  have hkl : k < log.length := (List.getElem?_eq_some_iff.1 hs).1
  by_cases hx : ∃ (k' : Nat) (q : Step), log[k']? = some q ∧ q.o.dst = some t
  · obtain ⟨k', q, hq, hqd⟩ := hx
    by_cases hi : q.i = s.i
    · have hkk := D.inj hq hs hi
      subst hkk
      rw [D.val' t (Nat.zero_le k') (Nat.le_of_lt hkl) fun j x _ hj hx hd => by
        have := D.one hx hq hd hqd
        omega]
      exact E.u t fun j x hx hdx hd => by
        have := D.one hx hq hd hqd
        subst this
        rw [hq] at hx
        injection hx with hx
        subst hx
        exact hnd (by rw [← hi]; exact hdx)
    · have hb := ((order_facts D.ord s.i s.o (D.st _ _ hs).2.2.2.2.2).2.2 q.i q.o t (D.st _ _ hq).2.2.2.2.2 (Ne.symm hi) hqd).2 ht
      rcases Nat.lt_or_ge q.i s.i with hlt | hge
      · rw [Nat.max_eq_left (Nat.le_of_lt hlt), Nat.min_eq_right (Nat.le_of_lt hlt)] at hb
        have hdq := hr _ hb
        obtain ⟨k2, q2, h1, h2, h3⟩ := D.ahead k s hs _ hb
        have hkk := D.inj h2 hq h3
        subst hkk
        rw [hq] at h2
        injection h2 with h2
        subst h2
        rw [D.val' t (k := k2 + 1) h1 (Nat.le_of_lt hkl) fun j x hj1 hj2 hx hd => by
          have := D.one hx hq hd hqd
          omega]
        exact E.w k2 _ hq hdq t hqd
      · have hlt : s.i < q.i := by omega
        rw [Nat.max_eq_right hge, Nat.min_eq_left hge] at hb
        have hnq : ¬ done q.i := fun hd => hnd (i4 _ _ hd hb)
        obtain ⟨k2, s2, h1, h2, h3⟩ := D.ahead k' q hq _ hb
        have hkk := D.inj h2 hs h3
        subst hkk
        rw [D.val' t (Nat.zero_le k2) (Nat.le_of_lt hkl) fun j x _ hj hx hd => by
          have := D.one hx hq hd hqd
          omega]
        exact E.u t fun j x hx hdx hd => by
          have := D.one hx hq hd hqd
          subst this
          rw [hq] at hx
          injection hx with hx
          subst hx
          exact hnq hdx
  · rw [D.val' t (Nat.zero_le k) (Nat.le_of_lt hkl) fun j x _ _ hx' hd => hx ⟨j, x, hx', hd⟩]
    exact E.u t fun j x hx' _ hd => hx ⟨j, x, hx', hd⟩
theorem Drawn.opsRel (D : Drawn P call ops n log A H) {ρ : Ren} (hg : Gl P ρ) {done : Nat → Prop} {a' : Act} (E : EnvI n log A ρ done a') (i4 : ∀ i j, done i → ((Region.before ops).getD i 0).testBit j = true → done j)
    {k : Nat} {s : Step} (hs : log[k]? = some s) (hnd : ¬ done s.i) (hr : ∀ j, ((Region.before ops).getD s.i 0).testBit j = true → done j) : OpsRel ρ s.o.op s.a.eval a'.eval ∧ Region.wanted s.o (yielded ops a'.tmps) = wantedE s.o ops s.a := by
  have e1 := (D.st k s hs).1
  constructor
  · intro x hx
    cases x with
    | tmp t =>
      rw [e1]
      exact D.slot E i4 hs hnd hr (List.mem_append_right _ (List.mem_filterMap.2 ⟨.tmp t, by simpa using hx, rfl⟩))
    | const v => exact ground_rel ρ 8 v ((operOk_spec (D.mem hs)).1 _ hx)
    | global g =>
      obtain ⟨p, h1, h2, h3⟩ := hg g (of_decide_eq_true ((operOk_spec (D.mem hs)).1 _ hx))
      have := VRel.ptr (ρ := ρ) ⟨g, 0, none⟩ p h1
      rw [h2, h3] at this
      exact this
    | func f => exact .func _ _ _ _ _ rfl rfl (fun i u v hu => by simp at hu) (fun i u v hu => by simp at hu)
  · refine wanted_rel (ρ := ρ) fun j b d hgd hd => ?_
    rw [e1]
    refine D.slot E i4 hs hnd hr (List.mem_append_left _ ?_)
    rw [hgd]
    simp only
    cases hj : ops[j]? with
    | none => rw [hj] at hd; simp at hd
    | some o =>
      rw [hj] at hd
      simp only [Option.bind_some] at hd
      simp [hd]
theorem Drawn.upd (D : Drawn P call ops n log A H) {ρ ρ1 : Ren} {done : Nat → Prop} {a' : Act} (E : EnvI n log A ρ done a') (hle : ρ.le ρ1) {k : Nat} {s : Step} (hs : log[k]? = some s) (hnd : ¬ done s.i) {v' : Value}
    (hv : ∀ t, s.o.dst = some t → VRel ρ1 ((A (k + 1)).eval (.tmp t)) v') : EnvI n log A ρ1 (fun i => done i ∨ i = s.i) (a'.put s.o.dst v') := by
  refine ⟨fun j q hq hd t ht => ?_, fun t ht => ?_, by rw [Act.put_size]; exact E.sz⟩
  · rw [Act.put_tmp E.sz (D.dst hs)]
    by_cases hdt : s.o.dst = some t
    · rw [if_pos hdt]
      have := D.one hq hs ht hdt
      subst this
      exact hv t hdt
    · rw [if_neg hdt]
      rcases hd with hd | hd
      · exact (E.w j q hq hd t ht).mono hle
      · have := D.inj hq hs hd
        subst this
        rw [hs] at hq
        injection hq with hq
        subst hq
        exact absurd ht hdt
  · rw [Act.put_tmp E.sz (D.dst hs), if_neg (ht k s hs (.inr rfl))]
    exact (E.u t fun j q hq hd => ht j q hq (.inl hd)).mono hle
end
end Go.Proofs.YtiffnkmbmenhfaaDoor.Run
/-! An order that is left open: what holds on the way. -/
namespace Go.Proofs.YtiffnkmbmenhfaaDoor.Run
open Go Go.RowKit
set_option linter.unusedVariables false
set_option linter.unusedSimpArgs false

theorem WRel.extend {ρ : Ren} {h h2 : AH} {w : World} (hw : WRel ρ h w) (hg : ∀ j, j < h.next → h2.get j = h.get j) (hn : h.next ≤ h2.next) (hl : h2.next ≤ AH.lim) : WRel ρ h2 w := by
  refine ⟨hl, fun a p hp => Nat.lt_of_lt_of_le (hw.old a p hp) hn, hw.low, fun a p r hp hr => ?_, fun a a' p p' hp hp' hb hne => ?_⟩
  · rw [hg a (hw.old a p hp)] at hr
    exact hw.row a p r hp hr
  · rw [hg a (hw.old a p hp), hg a' (hw.old a' p' hp')]
    exact hw.inj a a' p p' hp hp' hb hne
theorem Fr.extend {ρ0 ρ : Ren} {h0 h h2 : AH} {w0 w : World} (fr : Fr ρ0 h0 w0 ρ h w) (hw : WRel ρ h w) (hg : ∀ j, j < h.next → h2.get j = h.get j) (hn : h.next ≤ h2.next) : Fr ρ0 h0 w0 ρ h2 w := by
  refine ⟨fr.os, fr.tape, fr.output, fr.size, fr.le, fun b hb hnw => ?_, Nat.le_trans fr.next hn, fun k hk e => ?_⟩
  · obtain ⟨h1, h3⟩ := fr.same b hb hnw
    refine ⟨h1, ?_⟩
    rintro ⟨a, p, hp, hpb, hro⟩
    exact h3 ⟨a, p, hp, hpb, fun cs hc => hro cs (by rw [hg a (hw.old a p hp)]; exact hc)⟩
  · obtain ⟨h1, h3⟩ := fr.keep k hk e
    exact ⟨h1, by rw [hg k (Nat.lt_of_lt_of_le hk fr.next)]; exact h3⟩
/-- A row that was made over rows is made over blocks. -/
theorem WRel.late {ρ : Ren} {h : AH} {w : World} (hw : WRel ρ h w) {r : Nat} (hn : ρ r = none) (hr : r < h.next) {cs cs' : Array Value} (hg : h.get r = some (.rw cs.toList)) (hcs : AsRel ρ cs cs') (t : TypeId) :
    WRel (ρ.with r ⟨w.heap.size, 0, cs'.size⟩) h (w.alloc (.cells cs' t)) := by
  have hle := Ren.with_le (p := ⟨w.heap.size, 0, cs'.size⟩) hn
  have hrr := rowRel_new (w := w) hcs t
  refine ⟨hw.lim, ?_, ?_, ?_, ?_⟩
  · intro a p hp
    unfold Ren.with at hp
    split at hp
    · omega
    · exact hw.old a p hp
  · intro a p hp
    rw [World.size_alloc]
    unfold Ren.with at hp
    split at hp
    · injection hp with hp; subst hp; exact Nat.lt_succ_self _
    · have := hw.low a p hp; omega
  · intro a p q hp hq
    unfold Ren.with at hp
    by_cases ha : a = r
    · rw [if_pos ha] at hp
      injection hp with hp
      subst hp
      rw [ha, hg] at hq
      injection hq with hq
      subst hq
      exact RowRel.mono hle rfl hrr
    · rw [if_neg ha] at hp
      exact RowRel.mono hle (Below.heap_alloc _ _ _ (hw.low a p hp)) (hw.row a p q hp hq)
  · intro a a' p p' hp hp' hb hne
    unfold Ren.with at hp hp'
    by_cases ha : a = r
    · rw [if_pos ha] at hp
      injection hp with hp
      by_cases ha' : a' = r
      · exact absurd (ha.trans ha'.symm) hne
      · rw [if_neg ha'] at hp'
        have := hw.low _ _ hp'
        rw [← hp] at hb
        simp only at hb
        omega
    · rw [if_neg ha] at hp
      by_cases ha' : a' = r
      · rw [if_pos ha'] at hp'
        injection hp' with hp'
        have := hw.low _ _ hp
        rw [← hp'] at hb
        simp only at hb
        omega
      · rw [if_neg ha'] at hp'
        exact hw.inj a a' p p' hp hp' hb hne
theorem Fr.late {ρ0 ρ : Ren} {h0 h : AH} {w0 w : World} (fr : Fr ρ0 h0 w0 ρ h w) {r : Nat} (hn : ρ r = none) (hr : h0.next ≤ r) (o : Obj) (e : Nat) : Fr ρ0 h0 w0 (ρ.with r ⟨w.heap.size, 0, e⟩) h (w.alloc o) := by
  have hs : w.heap.size ≤ (w.alloc o).heap.size := by rw [World.size_alloc]; exact Nat.le_succ _
  refine ⟨fr.os, fr.tape, fr.output, Nat.le_trans fr.size hs, Ren.le_trans fr.le (Ren.with_le hn), fun b hb hnw => ?_, fr.next, fun k hk e0 => ?_⟩
  · obtain ⟨h1, h3⟩ := fr.same b hb hnw
    refine ⟨(Below.heap_alloc _ _ _ (Nat.lt_of_lt_of_le hb fr.size)).trans h1, ?_⟩
    rintro ⟨a, p, hp, hpb, hro⟩
    unfold Ren.with at hp
    by_cases ha : a = r
    · rw [if_pos ha] at hp
      injection hp with hp
      rw [← hp] at hpb
      have := fr.size
      simp only at hpb
      omega
    · rw [if_neg ha] at hp
      exact h3 ⟨a, p, hp, hpb, hro⟩
  · obtain ⟨h1, h3⟩ := fr.keep k hk e0
    exact ⟨by unfold Ren.with; rw [if_neg (by omega)]; exact h1, h3⟩
section
variable {P : Program} {call : ACall} {ops : Array Oper} {n : Nat} {log : List Step} {A : Nat → Env} {H : Nat → AH}
/-- What holds on the way: K stands ahead of the next operation that changes memory. -/
structure DInv (P : Program) (ops : Array Oper) (n : Nat) (log : List Step) (A : Nat → Env) (H : Nat → AH) (ρ0 : Ren) (w0 : World) (K : Nat) (done : Nat → Prop) (ρ : Ren) (a' : Act) (w : World) : Prop where
  len : K ≤ log.length
  i1 : ∀ (k : Nat) s, k < K → log[k]? = some s → mainOp s.o = true → done s.i
  i2 : ∀ i, done i → ∃ (k : Nat) (s : Step), k < K ∧ log[k]? = some s ∧ s.i = i
  i3 : ∀ s, log[K]? = some s → mainOp s.o = true
  i4 : ∀ i j, done i → ((Region.before ops).getD i 0).testBit j = true → done j
  env : EnvI n log A ρ done a'
  wr : WRel ρ (H K) w
  fr : Fr ρ0 (H 0) w0 ρ (H K) w
  dl : (A K).defers.length = a'.defers.length
  dd : ∀ (i : Nat) d d', (A K).defers[i]? = some d → a'.defers[i]? = some d' → DRel ρ d d'
  late : ∀ (k : Nat) s, k < K → log[k]? = some s → makes s.o.op = true → wantedE s.o ops s.a = true → ¬ done s.i → ρ (H k).next = none ∧ (H K).get (H k).next = (H (k + 1)).get (H k).next
theorem makes_main {o : Oper} (h : makes o.op = true) : mainOp o = false := by
  unfold mainOp
  rw [h]
  simp
theorem Drawn.row_lt (D : Drawn P call ops n log A H) {k K : Nat} {s : Step} (hs : log[k]? = some s) (hm : makes s.o.op = true) (hw : wantedE s.o ops s.a = true) (hk : k < K) (hl : K ≤ log.length) : (H k).next < (H K).next := by
  have h1 := (D.float hs (makes_main hm)).2.2.2.2 hm hw
  have h2 := D.mono' (k := k + 1) hk hl
  omega
/-- What is ready, where it stands. -/
theorem DInv.place {ρ0 ρ : Ren} {w0 w : World} {K : Nat} {done : Nat → Prop} {a' : Act} (D : Drawn P call ops n log A H) (I : DInv P ops n log A H ρ0 w0 K done ρ a' w) {i : Nat} (hi : i < ops.size) (hnd : ¬ done i)
    (hr : ∀ j, ((Region.before ops).getD i 0).testBit j = true → done j) : ∃ (k : Nat) (s : Step), log[k]? = some s ∧ s.i = i ∧ ((k < K ∧ mainOp s.o = false) ∨ (k = K ∧ mainOp s.o = true)) := by
  obtain ⟨k, s, hs, rfl⟩ := D.all i hi
  refine ⟨k, s, hs, rfl, ?_⟩
  rcases Nat.lt_trichotomy k K with h | h | h
  · left
    refine ⟨h, ?_⟩
    cases hm : mainOp s.o with
    | false => rfl
    | true => exact absurd (I.i1 k s h hs hm) hnd
  · right
    subst h
    exact ⟨rfl, I.i3 s hs⟩
  · exfalso
    have hkl := (List.getElem?_eq_some_iff.1 hs).1
    have hK : log[K]? = some log[K] := List.getElem?_eq_getElem (by omega)
    have hd := hr _ (D.mains k s K _ hs h hK (I.i3 _ hK))
    obtain ⟨k2, s2, h1, h2, h3⟩ := I.i2 _ hd
    have := D.inj h2 hK h3
    omega
/-- Nothing but what this one does to a slot. -/
theorem DInv.quiet {ρ0 ρ ρ1 : Ren} {w0 w w1 : World} {K : Nat} {done : Nat → Prop} {a' : Act} (D : Drawn P call ops n log A H) (I : DInv P ops n log A H ρ0 w0 K done ρ a' w) {k : Nat} {s : Step} (hs : log[k]? = some s) (hk : k < K)
    (hm : mainOp s.o = false) (hnd : ¬ done s.i) (hr : ∀ j, ((Region.before ops).getD s.i 0).testBit j = true → done j) (hw1 : WRel ρ1 (H K) w1) (fr1 : Fr ρ (H K) w ρ1 (H K) w1) {v' : Value}
    (hv : ∀ t, s.o.dst = some t → VRel ρ1 ((A (k + 1)).eval (.tmp t)) v') : DInv P ops n log A H ρ0 w0 K (fun i => done i ∨ i = s.i) ρ1 (a'.put s.o.dst v') w1 := by
  refine ⟨I.len, fun j q hj hq hmq => .inl (I.i1 j q hj hq hmq), fun i hi => ?_, I.i3, fun i j hi hb => ?_, D.upd I.env fr1.le hs hnd hv, hw1, I.fr.trans fr1, by rw [Act.put_defs]; exact I.dl, by rw [Act.put_defs]; exact fun i d d' h1 h2 => (I.dd i d d' h1 h2).mono fr1.le, fun j q hj hq hmq hwq hndq => ?_⟩
  · rcases hi with hi | rfl
    · exact I.i2 i hi
    · exact ⟨k, s, hk, hs, rfl⟩
  · rcases hi with hi | rfl
    · exact .inl (I.i4 i j hi hb)
    · exact .inl (hr j hb)
  · obtain ⟨h1, h2⟩ := I.late j q hj hq hmq hwq fun hd => hndq (.inl hd)
    exact ⟨(fr1.keep _ (D.row_lt hq hmq hwq hj I.len) h1).1, h2⟩
/-- A row, made later. -/
theorem DInv.made {ρ0 ρ : Ren} {w0 w : World} {K : Nat} {done : Nat → Prop} {a' : Act} (D : Drawn P call ops n log A H) (I : DInv P ops n log A H ρ0 w0 K done ρ a' w) {k : Nat} {s : Step} (hs : log[k]? = some s) (hk : k < K)
    (hm : makes s.o.op = true) (hw : wantedE s.o ops s.a = true) (hnd : ¬ done s.i) (hr : ∀ j, ((Region.before ops).getD s.i 0).testBit j = true → done j) {cs cs' : Array Value} (t : TypeId) (hH : H (k + 1) = (H k).push (.rw cs.toList)) (hl : (H k).next < AH.lim)
    (hcs : AsRel ρ cs cs') {v' : Value} (hv : ∀ d, s.o.dst = some d → VRel (ρ.with (H k).next ⟨w.heap.size, 0, cs'.size⟩) ((A (k + 1)).eval (.tmp d)) v') :
    DInv P ops n log A H ρ0 w0 K (fun i => done i ∨ i = s.i) (ρ.with (H k).next ⟨w.heap.size, 0, cs'.size⟩) (a'.put s.o.dst v') (w.alloc (.cells cs' t)) := by
  obtain ⟨m1, m2⟩ := I.late k s hk hs hm hw hnd
  have hlt := D.row_lt hs hm hw hk I.len
  have hle : ρ.le (ρ.with (H k).next ⟨w.heap.size, 0, cs'.size⟩) := Ren.with_le m1
  have hg : (H K).get (H k).next = some (.rw cs.toList) := by
    rw [m2, hH, AH.get_push _ _ _ hl, if_pos rfl]
  refine ⟨I.len, fun j q hj hq hmq => .inl (I.i1 j q hj hq hmq), fun i hi => ?_, I.i3, fun i j hi hb => ?_, D.upd I.env hle hs hnd hv, I.wr.late m1 hlt hg hcs t, I.fr.late m1 (D.mono' (Nat.zero_le k) (Nat.le_of_lt (List.getElem?_eq_some_iff.1 hs).1)) _ _, by rw [Act.put_defs]; exact I.dl,
    by rw [Act.put_defs]; exact fun i d d' h1 h2 => (I.dd i d d' h1 h2).mono hle, fun j q hj hq hmq hwq hndq => ?_⟩
  · rcases hi with hi | rfl
    · exact I.i2 i hi
    · exact ⟨k, s, hk, hs, rfl⟩
  · rcases hi with hi | rfl
    · exact .inl (I.i4 i j hi hb)
    · exact .inl (hr j hb)
  · obtain ⟨h1, h2⟩ := I.late j q hj hq hmq hwq fun hd => hndq (.inl hd)
    refine ⟨?_, h2⟩
    unfold Ren.with
    rw [if_neg]
    · exact h1
    · have hjk : j ≠ k := fun e => by
        subst e
        rw [hs] at hq
        injection hq with hq
        subst hq
        exact hndq (.inr rfl)
      have hjl := (List.getElem?_eq_some_iff.1 hq).1
      have hkl := (List.getElem?_eq_some_iff.1 hs).1
      rcases Nat.lt_or_gt_of_ne hjk with hlt | hgt
      · have := D.row_lt hq hmq hwq hlt (Nat.le_of_lt hkl)
        omega
      · have := D.row_lt hs hm hw hgt (Nat.le_of_lt hjl)
        omega
/-- What changes memory. -/
theorem DInv.main {ρ0 ρ ρ1 : Ren} {w0 w w1 : World} {K : Nat} {done : Nat → Prop} {a' a2 : Act} (D : Drawn P call ops n log A H) (I : DInv P ops n log A H ρ0 w0 K done ρ a' w) {s : Step} (hs : log[K]? = some s) (hnd : ¬ done s.i)
    (hr : ∀ j, ((Region.before ops).getD s.i 0).testBit j = true → done j) (hw1 : WRel ρ1 (H (K + 1)) w1) (fr1 : Fr ρ (H K) w ρ1 (H (K + 1)) w1) (henv : EnvI n log A ρ1 (fun i => done i ∨ i = s.i) a2)
    (hdl : (A (K + 1)).defers.length = a2.defers.length) (hdd : ∀ (i : Nat) d d', (A (K + 1)).defers[i]? = some d → a2.defers[i]? = some d' → DRel ρ1 d d') :
    ∃ K', DInv P ops n log A H ρ0 w0 K' (fun i => done i ∨ i = s.i) ρ1 a2 w1 := by
  have hm := I.i3 s hs
  have hKl := (List.getElem?_eq_some_iff.1 hs).1
  obtain ⟨K', k1, k2, k3, k4⟩ := nextMain log (log.length - (K + 1)) (K + 1) (by omega)
  obtain ⟨s1, s2, s3, s4⟩ := D.seg' k1 k2 k3
  have hmono := D.mono' k1 k2
  refine ⟨K', k2, fun j q hj hq hmq => ?_, fun i hi => ?_, k4, fun i j hi hb => ?_, henv, hw1.extend s2 hmono (s3 hw1.lim), (I.fr.trans fr1).extend hw1 s2 hmono, by rw [s4]; exact hdl, by rw [s4]; exact hdd, fun j q hj hq hmq hwq hndq => ?_⟩
  · rcases Nat.lt_trichotomy j K with h | h | h
    · exact .inl (I.i1 j q h hq hmq)
    · subst h
      rw [hs] at hq
      injection hq with hq
      subst hq
      exact .inr rfl
    · rw [k3 j q h hj hq] at hmq
      cases hmq
  · rcases hi with hi | rfl
    · obtain ⟨k, q, h1, h2, h3⟩ := I.i2 i hi
      exact ⟨k, q, by omega, h2, h3⟩
    · exact ⟨K, s, k1, hs, rfl⟩
  · rcases hi with hi | rfl
    · exact .inl (I.i4 i j hi hb)
    · exact .inl (hr j hb)
  · have hjl := (List.getElem?_eq_some_iff.1 hq).1
    rcases Nat.lt_trichotomy j K with h | h | h
    · obtain ⟨h1, h2⟩ := I.late j q h hq hmq hwq fun hd => hndq (.inl hd)
      obtain ⟨h3, h4⟩ := fr1.keep _ (D.row_lt hq hmq hwq h I.len) h1
      exact ⟨h3, (s2 _ (D.row_lt hq hmq hwq (by omega) hKl)).trans (h4.trans h2)⟩
    · subst h
      rw [hs] at hq
      injection hq with hq
      subst hq
      rw [makes_main hmq] at hm
      cases hm
    · have hge := D.mono' (k := K + 1) (k' := j) h (Nat.le_of_lt hjl)
      constructor
      · cases hx : ρ1 (H j).next with
        | none => rfl
        | some p =>
          have := hw1.old _ _ hx
          omega
      · refine (D.seg' (k := j + 1) hj k2 fun l x h1 h2 h3 => k3 l x (by omega) h2 h3).2.1 _ ?_
        exact D.row_lt hq hmq hwq (Nat.lt_succ_self j) hjl
end
end Go.Proofs.YtiffnkmbmenhfaaDoor.Run
/-! An order that is left open: whatever the order, it ends as the run over rows ends. -/
namespace Go.Proofs.YtiffnkmbmenhfaaDoor.Run
open Go Go.RowKit
set_option linter.unusedVariables false
set_option linter.unusedSimpArgs false

theorem veqs_eq (n : Nat) (ih : ∀ x y, veq n x y = true → x = y) : ∀ x y, veq.veqs n x y = true → x = y := by
  intro x
  induction x with
  | nil => intro y h; cases y with
    | nil => rfl
    | cons b y => simp [veq.veqs] at h
  | cons a x ihx =>
    intro y h
    cases y with
    | nil => simp [veq.veqs] at h
    | cons b y =>
      simp only [veq.veqs, Bool.and_eq_true] at h
      rw [ih _ _ h.1, ihx _ h.2]
theorem veq_eq : ∀ (n : Nat) (x y : Value), veq n x y = true → x = y := by
  intro n
  induction n with
  | zero => intro x y h; simp [veq] at h
  | succ n ih =>
    intro x y h
    unfold veq at h
    split at h
    · rw [beq_iff_eq] at h; rw [h]
    · rw [Bool.and_eq_true, decide_eq_true_eq, decide_eq_true_eq] at h; rw [h.1, h.2]
    · rw [decide_eq_true_eq] at h; rw [h]
    · rw [decide_eq_true_eq] at h; rw [h]
    · rw [Bool.and_eq_true, Bool.and_eq_true, decide_eq_true_eq, beq_iff_eq, beq_iff_eq] at h; rw [h.1, h.2.1, h.2.2]
    · rw [decide_eq_true_eq] at h; rw [h]
    · rfl
    · rfl
    · rw [Array.toList_inj.1 (veqs_eq n ih _ _ h)]
    · rw [Array.toList_inj.1 (veqs_eq n ih _ _ h)]
    · simp at h
theorem sameOut_spec {o : Oper} {a' : Env} {r : AOut} (h : sameOut o a' r = true) : ∃ a2 h2, r = some (.normal, a2, h2) ∧ ∀ d, o.dst = some d → a2.eval (.tmp d) = a'.eval (.tmp d) := by
  unfold sameOut at h
  split at h
  · rename_i a2 h2
    refine ⟨a2, h2, rfl, fun d hd => ?_⟩
    rw [hd] at h
    exact (veq_eq 12 _ _ h).symm
  · simp at h
def cnt (l : Array Bool) : Nat → Nat
  | 0 => 0
  | k + 1 => cnt l k + (if l.getD k false = true then 0 else 1)
theorem cnt_zero (l : Array Bool) : ∀ k, cnt l k = 0 → ∀ i, i < k → l.getD i false = true := by
  intro k
  induction k with
  | zero => intro _ i hi; omega
  | succ k ih =>
    intro h i hi
    simp only [cnt] at h
    by_cases hk : l.getD k false = true
    · by_cases hik : i = k
      · rw [hik]; exact hk
      · exact ih (by omega) i (by omega)
    · rw [if_neg hk] at h
      omega
theorem getD_set {l : Array Bool} {i : Nat} (hi : i < l.size) (j : Nat) : (l.setIfInBounds i true).getD j false = true ↔ l.getD j false = true ∨ j = i := by
  by_cases h : j = i
  · subst h
    simp [Array.getD, hi]
  · rw [getD_set_ne false (Ne.symm h)]
    simp [h]
theorem cnt_set {l : Array Bool} {i : Nat} (hi : i < l.size) (hf : ¬ l.getD i false = true) : ∀ k, cnt (l.setIfInBounds i true) k + (if i < k then 1 else 0) = cnt l k := by
  intro k
  induction k with
  | zero => rfl
  | succ k ih =>
    simp only [cnt]
    by_cases hik : k = i
    · subst hik
      rw [if_pos ((getD_set hi k).2 (.inr rfl)), if_neg hf, if_pos (Nat.lt_succ_self k)]
      rw [if_neg (Nat.lt_irrefl k)] at ih
      omega
    · have e : ((l.setIfInBounds i true).getD k false = true) = (l.getD k false = true) := propext ⟨fun h => ((getD_set hi k).1 h).resolve_right hik, fun h => (getD_set hi k).2 (.inl h)⟩
      simp only [e]
      by_cases hlt : i < k
      · rw [if_pos hlt] at ih
        rw [if_pos (show i < k + 1 by omega)]
        omega
      · rw [if_neg hlt] at ih
        rw [if_neg (show ¬ i < k + 1 by omega)]
        omega
section
variable {P : Program} {call : ACall} {ops : Array Oper} {n : Nat} {log : List Step} {A : Nat → Env} {H : Nat → AH}
theorem DInv.final {ρ0 ρ : Ren} {w0 w : World} {K : Nat} {done : Nat → Prop} {a' : Act} (D : Drawn P call ops n log A H) (I : DInv P ops n log A H ρ0 w0 K done ρ a' w) (hall : ∀ i, i < ops.size → done i) {Q : Exit → Act → World → Prop}
    (F : Post ρ0 (H 0) w0 n .normal (A log.length) (H log.length) Q) : Q .normal a' w := by
  have hK : K = log.length := by
    rcases Nat.lt_or_ge K log.length with h | h
    · have hs : log[K]? = some log[K] := List.getElem?_eq_getElem h
      obtain ⟨k, s, h1, h2, h3⟩ := I.i2 _ (hall _ (D.lt hs))
      have := D.inj h2 hs h3
      omega
    · have := I.len; omega
  subst hK
  refine F ρ .normal a' w I.wr I.fr ⟨I.env.sz, fun t => ?_, I.dl, I.dd⟩ .normal
  by_cases hx : ∃ (k : Nat) (s : Step), log[k]? = some s ∧ s.o.dst = some t
  · obtain ⟨k, s, hs, hd⟩ := hx
    rw [D.val' t (k := k + 1) (List.getElem?_eq_some_iff.1 hs).1 (Nat.le_refl _) fun j q h1 h2 h3 h4 => by
      have := D.one h3 hs h4 hd
      omega]
    exact I.env.w k s hs (hall _ (D.lt hs)) t hd
  · rw [D.val' t (Nat.zero_le _) (Nat.le_refl _) fun j q h1 h2 h3 h4 => hx ⟨j, q, h3, h4⟩]
    exact I.env.u t fun k s hs _ hd => hx ⟨k, s, hs, hd⟩
theorem Drawn.put_val (D : Drawn P call ops n log A H) {k : Nat} {s : Step} (hs : log[k]? = some s) {v : Value} (h : s.a' = s.a.put s.o.dst v) {t : Tmp} (ht : s.o.dst = some t) : (A (k + 1)).eval (.tmp t) = v := by
  rw [← (D.st k s hs).2.2.1, h, ht, Env.eval_put _ _ _ (D.dst' hs t ht), if_pos rfl]
theorem DInv.env_now {ρ0 ρ : Ren} {w0 w : World} {K : Nat} {done : Nat → Prop} {a' : Act} (D : Drawn P call ops n log A H) (I : DInv P ops n log A H ρ0 w0 K done ρ a' w) (hall : ∀ (k : Nat) s, k < K → log[k]? = some s → done s.i) : EnvRel ρ n (A K) a' := by
  refine ⟨I.env.sz, fun t => ?_, I.dl, I.dd⟩
  by_cases hx : ∃ (k : Nat) (s : Step), k < K ∧ log[k]? = some s ∧ s.o.dst = some t
  · obtain ⟨k, s, hk, hs, hd⟩ := hx
    rw [D.val' t (k := k + 1) hk I.len fun j q h1 h2 h3 h4 => by
      have := D.one h3 hs h4 hd
      omega]
    exact I.env.w k s hs (hall k s hk hs) t hd
  · rw [D.val' t (Nat.zero_le _) I.len fun j q h1 h2 h3 h4 => hx ⟨j, q, h2, h3, h4⟩]
    refine I.env.u t fun k s hs hd ht => hx ?_
    obtain ⟨k2, s2, g1, g2, g3⟩ := I.i2 _ hd
    have e := D.inj g2 hs g3
    subst e
    exact ⟨k2, s, g1, hs, ht⟩
theorem any_wp (hc : CallOk P call) (D : Drawn P call ops n log A H) {ρ0 : Ren} {w0 : World} {Q : Exit → Act → World → Prop} (F : (∀ (k : Nat) s, log[k]? = some s → ¬ Fake P call ops s) → Post ρ0 (H 0) w0 n .normal (A log.length) (H log.length) Q)
    (G : ∀ (k : Nat) s c a2 h2, log[k]? = some s → Fake P call ops s → aop P call s.o s.a s.h = some (.panic c, a2, h2) → Post ρ0 (H 0) w0 n (.panic c) a2 h2 Q) :
    ∀ (fuel : Nat) (listed : Array Bool) (K : Nat) (ρ : Ren) (a' : Act) (w : World), listed.size = ops.size → (∀ (k : Nat) s, log[k]? = some s → Fake P call ops s → ¬ listed.getD s.i false = true) → DInv P ops n log A H ρ0 w0 K (fun i => listed.getD i false = true) ρ a' w → cnt listed ops.size ≤ fuel → Gl P ρ → wpAny P .any ops Q fuel listed a' w := by
  have done_ready : ∀ (listed : Array Bool), listed.size = ops.size → (∀ i, i < ops.size → listed.getD i false = true) → Region.ready .any ops listed = [] := by
    intro listed hsz hall
    refine List.eq_nil_iff_forall_not_mem.2 fun j hj => ?_
    obtain ⟨h0, o, ho, _⟩ := mem_ready.1 hj
    have hlt : j < ops.size := (Array.getElem?_eq_some_iff.1 ho).1
    have h1 := hall j hlt
    have hl : j < listed.size := by omega
    simp [Array.getD, hl] at h0 h1
    rw [h0] at h1
    cases h1
  intro fuel
  induction fuel with
  | zero =>
    intro listed K ρ a' w hsz hnf I hcnt hg
    have hall := cnt_zero listed ops.size (by omega)
    exact ⟨done_ready listed hsz hall, I.final D hall (F fun k s hs hf => hnf k s hs hf (hall _ (D.lt hs)))⟩
  | succ fuel ih =>
    intro listed K ρ a' w hsz hnf I hcnt hg
    have nd : ∀ i, i ∈ Region.ready .any ops listed → ¬ listed.getD i false = true := by
      intro i hi h1
      obtain ⟨h0, o, ho, _⟩ := mem_ready.1 hi
      have hl : i < listed.size := by rw [hsz]; exact (Array.getElem?_eq_some_iff.1 ho).1
      simp [Array.getD, hl] at h0 h1
      rw [h0] at h1
      cases h1
    refine ⟨fun hr => ?_, fun i hi => ?_⟩
    · suffices hall : ∀ i, i < ops.size → listed.getD i false = true from I.final D hall (F fun k s hs hf => hnf k s hs hf (hall _ (D.lt hs)))
      intro i
      induction i using Nat.strongRecOn with
      | _ i ihi =>
        intro hlt
        refine Classical.byContradiction fun hnd => ?_
        have hl : i < listed.size := by omega
        have ho : ops[i]? = some ops[i] := Array.getElem?_eq_getElem hlt
        have : i ∈ Region.ready .any ops listed := by
          refine mem_ready.2 ⟨?_, ops[i], ho, fun e he hb => ?_⟩
          · simp [Array.getD, hl] at hnd ⊢
            exact hnd
          · have hlt2 := (order_facts D.ord i _ ho).1 e he hb
            exact ihi e.on hlt2 (by omega)
        rw [hr] at this
        cases this
    · have hnd := nd i hi
      obtain ⟨_, o, ho, hdeps⟩ := mem_ready.1 hi
      have hlt : i < ops.size := (Array.getElem?_eq_some_iff.1 ho).1
      have hl : i < listed.size := by omega
      have hr : ∀ j, ((Region.before ops).getD i 0).testBit j = true → listed.getD j false = true := by
        intro j hj
        obtain ⟨e, he, hb, h1⟩ := (order_facts D.ord i o ho).2.1 j hj
        have h2 := hdeps e he hb
        rcases h1 with h1 | h1
        · rw [← h1]; exact h2
        · exact I.i4 e.on j h2 h1
      obtain ⟨k, s, hs, rfl, hpl⟩ := I.place D hlt hnd hr
      have hso := (D.st k s hs).2.2.2.2.2
      obtain ⟨e1, e2, e3, e4, hok, _⟩ := D.st k s hs
      obtain ⟨hops, hwant⟩ := D.opsRel hg I.env I.i4 hs hnd hr
      have hpred : (fun j => (listed.setIfInBounds s.i true).getD j false = true) = (fun j => listed.getD j false = true ∨ j = s.i) := funext fun j => propext (getD_set hl j)
      have hcnt' : cnt (listed.setIfInBounds s.i true) ops.size ≤ fuel := by
        have := cnt_set hl hnd ops.size
        rw [if_pos hlt] at this
        omega
      have go : ¬ Fake P call ops s → ∀ (K' : Nat) (ρ1 : Ren) (a2 : Act) (w1 : World), DInv P ops n log A H ρ0 w0 K' (fun j => listed.getD j false = true ∨ j = s.i) ρ1 a2 w1 → ρ.le ρ1 → wpAny P .any ops Q fuel (listed.setIfInBounds s.i true) a2 w1 := by
        intro hsf K' ρ1 a2 w1 I' hle
        refine ih _ K' ρ1 a2 w1 (by rw [Array.size_setIfInBounds]; exact hsz) (fun k2 s2 h1 h2 h3 => ?_) (by rw [hpred]; exact I') hcnt' (hg.mono hle)
        rcases (getD_set hl s2.i).1 h3 with h3 | h3
        · exact hnf k2 s2 h1 h2 h3
        · have e := D.inj h1 hs h3
          subst e
          rw [hs] at h1
          injection h1 with h1
          subst h1
          exact hsf h2
      unfold wpOp
      rw [hso]
      simp only
      rw [hwant]
      rcases hok with ⟨hw, hx⟩ | ⟨hw | hf, hx, hh⟩
      · have go := go (fun hf => by obtain ⟨_, _, _, c, x, y, hz⟩ := hf; rw [hx] at hz; simp at hz)
        rw [hw, if_pos rfl]
        left
        rcases hpl with ⟨hk, hm⟩ | ⟨rfl, hm⟩
        · rcases mainOp_false hm with h0 | h0
          · -- a reader
            have hkl : K ≤ log.length := I.len
            have key : ∃ a2, aop P call s.o s.a (H K) = some (.normal, a2, H K) ∧ ∀ d, s.o.dst = some d → a2.eval (.tmp d) = s.a'.eval (.tmp d) := by
              rcases lastMain log (k + 1) (K - (k + 1)) (by omega) with hno | ⟨p, q, p1, p2, p3, p4, p5⟩
              · have e : k + 1 + (K - (k + 1)) = K := by omega
                rw [e] at hno
                have hsub := (D.seg' (k := k) (k' := K) (by omega) hkl fun j x h1 h2 h3 => by
                  by_cases hjk : j = k
                  · subst hjk
                    rw [hs] at h3
                    injection h3 with h3
                    subst h3
                    exact hm
                  · exact hno j x (by omega) h2 h3).1
                rw [← e2] at hsub
                have h1 := (aop_reader h0 hx).2 _ hsub
                exact ⟨s.a', h1, fun d _ => rfl⟩
              · have e : k + 1 + (K - (k + 1)) = K := by omega
                rw [e] at p2 p5
                have hnb : ((Region.before ops).getD q.i 0).testBit s.i = false := by
                  cases hb : ((Region.before ops).getD q.i 0).testBit s.i with
                  | false => rfl
                  | true => exact absurd (I.i4 _ _ (I.i1 p q p2 p3 p4) hb) hnd
                obtain ⟨a2, h2, g1, g2⟩ := sameOut_spec (D.stab k p s q hs p3 p1 h0 hw p4 hnb)
                have hq4 := (D.st p q p3).2.2.2.1
                have g3 := (aop_reader h0 g1).1
                have hsub := (D.seg' (k := p + 1) (k' := K) p2 hkl fun j x h1 h2 h3 => p5 j x (by omega) h2 h3).1
                rw [← hq4] at hsub
                rw [g3] at g1
                exact ⟨a2, (aop_reader h0 g1).2 _ hsub, g2⟩
            obtain ⟨a2, g1, g2⟩ := key
            refine aop_wp hc I.wr hg hops g1 ⟨?_, ?_, ?_⟩
            · intro ρ1 w1 v v' k1 k2 k3 _ k5
              refine go K ρ1 _ w1 (I.quiet D hs hk hm hnd hr k1 k2 fun t ht => ?_) k2.le
              rw [← e3, ← g2 t ht, k5, ht, Env.eval_put _ _ _ (D.dst' hs t ht), if_pos rfl]
              exact k3
            · intro ρ1 w1 d d' k1 k2 k3 _ k5
              exfalso
              rcases aop_shape g1 with ⟨v, hv⟩ | ⟨hx', _⟩
              · rw [hv] at k5
                have := congrArg Env.defers k5
                rw [Env.put_defers, Env.put_defers] at this
                simp at this
              · rw [h0] at hx'; cases hx'
            · intro ρ1 w1 ch ch' _ _ _ k4
              cases k4
          · -- a row
            obtain ⟨hlim, cs, cs', t, f, m1, m2, m3, m4, m5⟩ := maker_run (ρ := ρ) h0 hops hx
            rw [e2, e4] at m1
            rw [e2] at hlim
            unfold Oper.wp
            rw [m4 w]
            have hv : ∀ d, s.o.dst = some d → VRel (ρ.with (H k).next ⟨w.heap.size, 0, cs'.size⟩) ((A (k + 1)).eval (.tmp d)) (f ⟨w.heap.size, 0, none⟩) := by
              intro d hd
              rw [D.put_val hs m2 hd, e2]
              rcases m5 with rfl | ⟨len, rfl⟩
              · have := VRel.ptr (ρ := ρ.with (H k).next ⟨w.heap.size, 0, cs'.size⟩) ⟨(H k).next, 0, none⟩ _ (Ren.with_same _ _ _)
                exact this
              · exact VRel.slice (ρ := ρ.with (H k).next ⟨w.heap.size, 0, cs'.size⟩) ⟨(H k).next, 0, none⟩ _ len len (Ren.with_same _ _ _) rfl (Nat.le_refl _)
            have hI := I.made D hs hk h0 hw hnd hr t m1 hlim m3 hv
            exact go K _ _ _ hI (Ren.with_le (I.late k s hk hs h0 hw hnd).1)
        · -- what changes memory
          rw [e2, e4] at hx
          refine aop_wp hc I.wr hg hops hx ⟨?_, ?_, ?_⟩
          · intro ρ1 w1 v v' k1 k2 k3 _ k5
            obtain ⟨K', hI⟩ := I.main (a2 := a'.put s.o.dst v') D hs hnd hr k1 k2 (D.upd I.env k2.le hs hnd fun t ht => by rw [D.put_val hs k5 ht]; exact k3)
              (by rw [Act.put_defs, ← e3, k5, Env.put_defers, e1]; exact I.dl) (by rw [Act.put_defs, ← e3, k5, Env.put_defers, e1]; exact fun i d d' h1 h2 => (I.dd i d d' h1 h2).mono k2.le)
            exact go K' ρ1 _ w1 hI k2.le
          · intro ρ1 w1 d d' k1 k2 k3 _ k5
            have henv : EnvI n log A ρ ((fun i => listed.getD i false = true)) { a' with defers := d' :: a'.defers } := ⟨I.env.w, I.env.u, I.env.sz⟩
            obtain ⟨K', hI⟩ := I.main (a2 := ({ a' with defers := d' :: a'.defers } : Act).put s.o.dst undef) D hs hnd hr k1 k2 (D.upd henv k2.le hs hnd fun t ht => by
                rw [← e3, k5, ht, Env.eval_put _ _ _ (D.dst' hs t ht), if_pos rfl]
                exact undef_rel ρ1)
              (by rw [Act.put_defs, ← e3, k5, Env.put_defers, e1]; simp [I.dl]) (by
                rw [Act.put_defs, ← e3, k5, Env.put_defers, e1]
                intro i x y h1 h2
                cases i with
                | zero =>
                  simp only [List.getElem?_cons_zero, Option.some.injEq] at h1 h2
                  subst h1 h2
                  exact k3
                | succ i => exact (I.dd i x y (by simpa using h1) (by simpa using h2)).mono k2.le)
            exact go K' ρ1 _ w1 hI k2.le
          · intro ρ1 w1 ch ch' _ _ _ k4
            cases k4
      · have go := go (fun hf => by rw [hf.1] at hw; cases hw)
        rw [hw, if_neg (by simp)]
        have hv : ∀ t, s.o.dst = some t → VRel ρ ((A (k + 1)).eval (.tmp t)) undef := fun t ht => by rw [D.put_val hs hx ht]; exact undef_rel ρ
        rcases hpl with ⟨hk, hm⟩ | ⟨rfl, hm⟩
        · exact go K ρ _ w (I.quiet D hs hk hm hnd hr I.wr (Fr.refl _ _ _) hv) (Ren.le_refl ρ)
        · rw [e2, e4] at hh
          obtain ⟨K', hI⟩ := I.main (ρ1 := ρ) (w1 := w) (a2 := a'.put s.o.dst undef) D hs hnd hr (by rw [hh]; exact I.wr) (by rw [hh]; exact Fr.refl _ _ _) (D.upd I.env (Ren.le_refl ρ) hs hnd hv)
            (by rw [Act.put_defs, ← e3, hx, Env.put_defers, e1]; exact I.dl) (by rw [Act.put_defs, ← e3, hx, Env.put_defers, e1]; exact I.dd)
          exact go K' ρ _ w hI (Ren.le_refl ρ)
      · -- a panic: everything else was done
        obtain ⟨hw, hm, hla, c, a2, h2, hp⟩ := id hf
        obtain ⟨l1, l2⟩ := lastAll_spec hla
        rw [hw, if_pos rfl]
        left
        rcases hpl with ⟨hk, hm'⟩ | ⟨rfl, _⟩
        · rw [hm] at hm'; cases hm'
        · have hp' := hp
          rw [e2] at hp'
          refine aop_wp hc I.wr hg hops hp' ⟨?_, ?_, ?_⟩
          · intro ρ1 w1 v v' _ _ _ k4 _
            cases k4
          · intro ρ1 w1 d d' _ _ _ k4 _
            cases k4
          · intro ρ1 w1 ch ch' k1 k2 k3 k4 k5
            injection k4 with k4
            subst k4
            have he := I.env_now D fun j q hj hq => hr q.i (l2 q.i (by
              have h1 := D.lt hq
              have h2 := D.ne _ _ _ _ hs hj hq
              omega))
            have hG := G _ s c a2 h2 hs hf hp
            refine hG ρ1 (.panic ch') a' w1 k1 (I.fr.trans k2) ?_ (.panic _ _ k3)
            rw [k5, e1]
            exact he.mono k2.le
end
theorem mem_insKey {k : Nat} {p : Oper × Nat} {x : Nat × (Oper × Nat)} : ∀ (l : List (Nat × (Oper × Nat))), x ∈ insKey k p l → x.2 = p ∨ x ∈ l := by
  intro l
  induction l with
  | nil =>
    intro h
    simp only [insKey, List.mem_cons, List.not_mem_nil, or_false] at h
    exact .inl (by rw [h])
  | cons q l ih =>
    intro h
    simp only [insKey] at h
    split at h
    · cases h with
      | head => exact .inr (List.mem_cons_self ..)
      | tail _ h => exact (ih h).imp id (List.mem_cons_of_mem _)
    · cases h with
      | head => exact .inl rfl
      | tail _ h => exact .inr h
theorem mem_sortKey {b : Array Nat} {mm : Nat} {x : Nat × (Oper × Nat)} : ∀ (l : List (Oper × Nat)) (acc : List (Nat × (Oper × Nat))), x ∈ sortKey b mm l acc → x.2 ∈ l ∨ x ∈ acc := by
  intro l
  induction l with
  | nil => intro acc h; exact .inr h
  | cons p l ih =>
    intro acc h
    rcases ih _ h with h | h
    · exact .inl (List.mem_cons_of_mem _ h)
    · rcases mem_insKey _ h with h | h
      · exact .inl (by rw [h]; exact List.mem_cons_self ..)
      · exact .inr h
theorem mem_eager {b : Array Nat} {l : List (Oper × Nat)} {p : Oper × Nat} (h : p ∈ eager b l) : p ∈ l := by
  unfold eager at h
  obtain ⟨x, hx, rfl⟩ := List.mem_map.1 h
  rcases mem_sortKey _ _ hx with h | h
  · exact h
  · simp at h
theorem adraw_wp {P : Program} {call : ACall} (hc : CallOk P call) (md : P.follows .mixedOrders = true) {n : Nat} (hn : n < 1000000) {ops : Array Oper} (hops : ∀ o ∈ ops, operOk P n o = true) {id : Nat} {Q : Exit → Act → World → Prop}
    {ρ : Ren} {a a1 : Env} {a' : Act} {h h1 : AH} {w : World} {e : Exit} (hw : WRel ρ h w) (hg : Gl P ρ) (he : EnvRel ρ n a a') (ha : adraw P call ops a h = some (e, a1, h1)) (F : Post ρ h w n e a1 h1 Q) : (Code.region id ops true).wp P Q a' w := by
  unfold adraw at ha
  split at ha
  · rename_i hord
    split at ha
    · rename_i log e2 a2 h2 hlog
      split at ha
      · rename_i hlok
        split at ha
        · rename_i hst
          simp only [Option.some.injEq, Prod.mk.injEq] at ha
          obtain ⟨rfl, rfl, rfl⟩ := ha
          obtain ⟨A, H, rfl, rfl, hends, hsteps⟩ := logOps_states _ _ _ _ _ _ _ hlog
          obtain ⟨f1, f2⟩ := logOk_facts _ _ _ _ _ hlok
          have hz : ∀ j, (0 : Nat).testBit j = false := fun j => Nat.zero_testBit j
          have D : Drawn P call ops n log A H := by
            refine ⟨fun k s hs => ?_, fun k s hs j hj => ?_, fun k s k' q hs hk hq hm => (f1 k s hs).2.2.1 k' q hk hq hm, fun k s k' q hs hk hq => (f1 k s hs).2.2.2.2.1 k' q hk hq, fun k s hs hm => ?_, fun k s hs => ?_, fun i hi => ?_, stable_facts _ _ hst, hord, hops, hn⟩
            · obtain ⟨g1, g2, g3, g4, g5, g6⟩ := hsteps k s hs
              refine ⟨g1, g2, g3, g4, g5, ?_⟩
              have := mem_eager g6
              rw [List.mem_iff_getElem?] at this
              obtain ⟨j, hj⟩ := this
              rw [List.getElem?_zipIdx] at hj
              obtain ⟨x, hx, e⟩ := Option.map_eq_some_iff.1 hj
              injection e with e1 e2
              rw [← e1, ← e2]
              simpa using hx
            · rcases (f1 k s hs).1 j hj with h | h
              · rw [hz] at h; cases h
              · exact h
            · obtain ⟨g1, g2, g3, g4, g5, g6⟩ := hsteps k s hs
              have := (f1 k s hs).2.2.2.2.2.1 hm
              rw [g2] at this
              exact this
            · obtain ⟨g1, g2, g3, g4, g5, g6⟩ := hsteps k s hs
              have := (f1 k s hs).2.2.2.2.2.2
              rw [g2, g4] at this
              exact this
            · rcases f2 i hi with h | h
              · rw [hz] at h; cases h
              · exact h
          refine wp_region_any md ?_
          obtain ⟨hw1, fr1⟩ := hw.drew
          obtain ⟨K, k1, k2, k3, k4⟩ := nextMain log log.length 0 (by omega)
          obtain ⟨s1, s2, s3, s4⟩ := D.seg' k1 k2 k3
          have hmono := D.mono' k1 k2
          have hrep : ∀ i, ((Array.replicate ops.size false).getD i false = true) = False := by
            intro i
            by_cases hi : i < ops.size <;> simp [Array.getD, hi]
          have hF : (∀ (k : Nat) s, log[k]? = some s → ¬ Fake P call ops s) → Post ρ (H 0) w n .normal (A log.length) (H log.length) Q := by
            intro hnf
            rcases hends with ⟨g1, g2, g3, g4⟩ | ⟨c, g1, ⟨k, s, g2, g3⟩, g4⟩
            · subst g1 g2 g3
              exact F
            · exact absurd g3 (hnf k s g2)
          have hG : ∀ (k : Nat) s c a2 h2, log[k]? = some s → Fake P call ops s → aop P call s.o s.a s.h = some (.panic c, a2, h2) → Post ρ (H 0) w n (.panic c) a2 h2 Q := by
            intro k s c a3 h3 hs hf hx
            rcases hends with ⟨g1, g2, g3, g4⟩ | ⟨c', g1, _, g4⟩
            · exact absurd hf (g4 k s hs)
            · obtain ⟨rfl, rfl, rfl⟩ := g4 k s c a3 h3 hs hf hx
              subst g1
              exact F
          refine any_wp hc D hF hG ops.size _ K ρ a' _ (by simp) (fun k s hs hf => by rw [hrep]; exact not_false) ⟨k2, fun j s hj hs hm => ?_, fun i hi => ?_, k4, fun i j hi _ => ?_, ⟨fun k s _ hd => ?_, fun t _ => he.tmp t, he.size⟩, hw1.extend s2 hmono (s3 hw1.lim), fr1.extend hw1 s2 hmono, by rw [s4]; exact he.len, by rw [s4]; exact he.defers, fun j q hj hq hmq hwq _ => ?_⟩ ?_ hg
          · rw [k3 j s (Nat.zero_le _) hj hs] at hm; cases hm
          · rw [hrep] at hi; exact hi.elim
          · rw [hrep] at hi; exact hi.elim
          · rw [hrep] at hd; exact hd.elim
          · have hjl := (List.getElem?_eq_some_iff.1 hq).1
            constructor
            · cases hx : ρ (H j).next with
              | none => rfl
              | some p =>
                have h5 := hw.old _ _ hx
                have h6 := D.mono' (Nat.zero_le j) (Nat.le_of_lt hjl)
                omega
            · exact (D.seg' (k := j + 1) hj k2 fun l x h1 h2 h3 => k3 l x (by omega) h2 h3).2.1 _ (D.row_lt hq hmq hwq (Nat.lt_succ_self j) hjl)
          · have : ∀ k, cnt (Array.replicate ops.size false) k ≤ k := by
              intro k
              induction k with
              | zero => exact Nat.le_refl _
              | succ k ih =>
                simp only [cnt]
                split <;> omega
            exact this _
        · simp at ha
      · simp at ha
    · simp at ha
  · simp at ha
end Go.Proofs.YtiffnkmbmenhfaaDoor.Run
