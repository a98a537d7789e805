import Derived.Test.YtiffnkmbmenhfaaDoorM5
import Derived.Recover
/-! Code. -/
namespace Go.Proofs.YtiffnkmbmenhfaaDoor.Run
open Go Go.RowKit
set_option linter.unusedVariables false
set_option linter.unusedSimpArgs false

def Rounds (P : Program) (c : Code) (Q : Exit → Act → World → Prop) : Nat → Act → World → Prop
  | 0, _, _ => False
  | m + 1, a, w => c.wp P (Exit.then (Rounds P c Q m) Q) a w
theorem wp_rounds {P : Program} {c : Code} {Q : Exit → Act → World → Prop} (m : Nat) {a : Act} {w : World} (h : Rounds P c Q m a w) : (Code.loop c).wp P Q a w := by
  intro b k cs
  have key : ∀ m a w, Rounds P c Q m a w → ∃ e a' w', Q e a' w' ∧ Arrives P (lone (b.at a (.code c :: .inLoop c :: k)) cs w) b k cs e a' w' := by
    intro m
    induction m with
    | zero => exact fun a w h => h.elim
    | succ m ih =>
      intro a w h
      obtain ⟨e, a₁, w₁, hq, harr⟩ := h b (.inLoop c :: k) cs
      cases e with
      | normal =>
        obtain ⟨e₂, a₂, w₂, hq₂, harr₂⟩ := ih a₁ w₁ hq
        exact ⟨e₂, a₂, w₂, hq₂, .of_steps (Steps.trans harr (.one step_inLoop)) harr₂⟩
      | exit id => exact ⟨_, a₁, w₁, hq, .pass (x := .inLoop c) rfl (fun _ _ => .inl (by simp)) harr⟩
      | goto l => exact ⟨_, a₁, w₁, hq, .pass (x := .inLoop c) rfl (fun _ _ => .inl (by simp)) harr⟩
      | ret => exact ⟨_, a₁, w₁, hq, .pass (x := .inLoop c) rfl (fun _ _ => .inl (by simp)) harr⟩
      | panic ch => exact ⟨_, a₁, w₁, hq, .pass (x := .inLoop c) rfl (fun _ _ => .inl (by simp)) harr⟩
      | outgrown => exact ⟨_, a₁, w₁, hq, .pass (x := .inLoop c) rfl (fun _ _ => .inl (by simp)) harr⟩
  obtain ⟨e, a', w', hq, harr⟩ := key m a w h
  exact ⟨e, a', w', hq, .of_steps (.one step_loop) harr⟩
/-- What follows, where it does not end normally. -/
theorem Post.other {ρ : Ren} {h : AH} {w : World} {n : Nat} {e : Exit} {a1 : Env} {h1 : AH} {Q : Exit → Act → World → Prop} {next : Act → World → Prop} (hne : e ≠ .normal) (K : Post ρ h w n e a1 h1 Q) : Post ρ h w n e a1 h1 (Exit.then next Q) := by
  intro ρ1 e' a1' w1 k1 k2 k3 k4
  have := K ρ1 e' a1' w1 k1 k2 k3 k4
  cases k4 with
  | normal => exact absurd rfl hne
  | exit i => exact this
  | ret => exact this
  | panic c c' h => exact this
theorem Post.inBlock {ρ : Ren} {h : AH} {w : World} {n : Nat} {e : Exit} {a1 : Env} {h1 : AH} {Q : Exit → Act → World → Prop} {id : Nat} (hne : e ≠ .exit id) (K : Post ρ h w n e a1 h1 Q) : Post ρ h w n e a1 h1 (Exit.inBlock id Q) := by
  intro ρ1 e' a1' w1 k1 k2 k3 k4
  have := K ρ1 e' a1' w1 k1 k2 k3 k4
  cases k4 with
  | normal => exact this
  | exit i =>
    simp only [Exit.inBlock]
    rw [if_neg (fun e => hne (by rw [e]))]
    exact this
  | ret => exact this
  | panic c c' h => exact this
theorem acode_wp {P : Program} {call : ACall} (hc : CallOk P call) (md : P.follows .mixedOrders = true) {n : Nat} (hn : n < 1000000) (N : Nat) : ∀ (c : Code), codeOk P n c = true →
    ∀ (ρ : Ren) (a a1 : Env) (a' : Act) (h h1 : AH) (w : World) (e : Exit) (Q : Exit → Act → World → Prop), WRel ρ h w → Gl P ρ → EnvRel ρ n a a' → acode P call N c a h = some (e, a1, h1) → Post ρ h w n e a1 h1 Q → c.wp P Q a' w := by
  intro c
  induction c with
  | skip =>
    intro _ ρ a a1 a' h h1 w e Q hw hg he ha K
    simp only [acode, Option.some.injEq, Prod.mk.injEq] at ha
    obtain ⟨rfl, rfl, rfl⟩ := ha
    exact wp_skip (K ρ _ a' w hw (Fr.refl _ _ _) he .normal)
  | seq x y ihx ihy =>
    intro hok ρ a a1 a' h h1 w e Q hw hg he ha K
    simp only [codeOk, Bool.and_eq_true] at hok
    simp only [acode] at ha
    refine wp_seq ?_
    cases hx : acode P call N x a h with
    | none => rw [hx] at ha; simp at ha
    | some r =>
      obtain ⟨e2, a2, h2⟩ := r
      rw [hx] at ha
      have other : e2 ≠ .normal → x.wp P (Exit.then (y.wp P Q) Q) a' w := by
        intro hne
        have hr : (e2, a2, h2) = (e, a1, h1) := by cases e2 <;> first | exact absurd rfl hne | (simpa using ha)
        simp only [Prod.mk.injEq] at hr
        obtain ⟨rfl, rfl, rfl⟩ := hr
        exact ihx hok.1 ρ a _ a' h _ w _ _ hw hg he hx (K.other hne)
      cases e2 with
      | normal =>
        simp only at ha
        refine ihx hok.1 ρ a a2 a' h h2 w .normal _ hw hg he hx fun ρ1 e' a1' w1 k1 k2 k3 k4 => ?_
        cases k4 with
        | normal => exact ihy hok.2 ρ1 a2 a1 a1' h2 h1 w1 e Q k1 (hg.mono k2.le) k3 ha (K.after k2)
      | _ => exact other (by simp)
  | cond c x y ihx ihy =>
    intro hok ρ a a1 a' h h1 w e Q hw hg he ha K
    simp only [codeOk, Bool.and_eq_true] at hok
    simp only [acode] at ha
    have hcr := he.eval hg hok.1
    split at ha
    · rename_i hcv
      rw [hcv] at hcr
      exact wp_cond_true (vrel_bool hcr) (ihx hok.2.1 ρ a a1 a' h h1 w e Q hw hg he ha K)
    · rename_i hcv
      rw [hcv] at hcr
      exact wp_cond_false (vrel_bool hcr) (ihy hok.2.2 ρ a a1 a' h h1 w e Q hw hg he ha K)
    · simp at ha
  | block id b ih =>
    intro hok ρ a a1 a' h h1 w e Q hw hg he ha K
    simp only [codeOk] at hok
    simp only [acode] at ha
    refine wp_block ?_
    cases hx : acode P call N b a h with
    | none => rw [hx] at ha; simp at ha
    | some r =>
      obtain ⟨e2, a2, h2⟩ := r
      rw [hx] at ha
      have other : (∀ i, e2 ≠ .exit i) → b.wp P (Exit.inBlock id Q) a' w := by
        intro hne
        have hr : (e2, a2, h2) = (e, a1, h1) := by cases e2 <;> first | exact absurd rfl (hne _) | (simpa using ha)
        simp only [Prod.mk.injEq] at hr
        obtain ⟨rfl, rfl, rfl⟩ := hr
        exact ih hok ρ a _ a' h _ w _ _ hw hg he hx (K.inBlock (hne id))
      cases e2 with
      | exit i =>
        simp only at ha
        split at ha
        · rename_i hi
          simp only [Option.some.injEq, Prod.mk.injEq] at ha
          obtain ⟨rfl, rfl, rfl⟩ := ha
          refine ih hok ρ a _ a' h _ w _ _ hw hg he hx fun ρ1 e' a1' w1 k1 k2 k3 k4 => ?_
          cases k4 with
          | exit i =>
            simp only [Exit.inBlock]
            rw [if_pos hi]
            exact K ρ1 .normal a1' w1 k1 k2 k3 .normal
        · rename_i hi
          simp only [Option.some.injEq, Prod.mk.injEq] at ha
          obtain ⟨rfl, rfl, rfl⟩ := ha
          exact ih hok ρ a _ a' h _ w _ _ hw hg he hx (K.inBlock (fun e => hi (by injection e)))
      | _ => exact other (fun i e => by cases e)
  | loop b ih =>
    intro hok ρ a a1 a' h h1 w e Q hw hg he ha K
    simp only [codeOk] at hok
    simp only [acode] at ha
    refine wp_rounds N ?_
    have key : ∀ m ρ a a' h w, WRel ρ h w → Gl P ρ → EnvRel ρ n a a' → loopN (acode P call N b) m a h = some (e, a1, h1) → Post ρ h w n e a1 h1 Q → Rounds P b Q m a' w := by
      intro m
      induction m with
      | zero => intro ρ a a' h w _ _ _ hl; simp [loopN] at hl
      | succ m ihm =>
        intro ρ a a' h w hw hg he hl K
        simp only [loopN] at hl
        show b.wp P (Exit.then (Rounds P b Q m) Q) a' w
        cases hx : acode P call N b a h with
        | none => rw [hx] at hl; simp at hl
        | some r =>
          obtain ⟨e2, a2, h2⟩ := r
          rw [hx] at hl
          have other : e2 ≠ .normal → b.wp P (Exit.then (Rounds P b Q m) Q) a' w := by
            intro hne
            have hr : (e2, a2, h2) = (e, a1, h1) := by cases e2 <;> first | exact absurd rfl hne | (simpa using hl)
            simp only [Prod.mk.injEq] at hr
            obtain ⟨rfl, rfl, rfl⟩ := hr
            exact ih hok ρ a _ a' h _ w _ _ hw hg he hx (K.other hne)
          cases e2 with
          | normal =>
            simp only at hl
            refine ih hok ρ a a2 a' h h2 w .normal _ hw hg he hx fun ρ1 e' a1' w1 k1 k2 k3 k4 => ?_
            cases k4 with
            | normal => exact ihm ρ1 a2 a1' h2 w1 k1 (hg.mono k2.le) k3 hl (K.after k2)
          | _ => exact other (by simp)
    exact key N ρ a a' h w hw hg he ha K
  | exit id =>
    intro _ ρ a a1 a' h h1 w e Q hw hg he ha K
    simp only [acode, Option.some.injEq, Prod.mk.injEq] at ha
    obtain ⟨rfl, rfl, rfl⟩ := ha
    exact wp_exit (K ρ _ a' w hw (Fr.refl _ _ _) he (.exit id))
  | ret =>
    intro _ ρ a a1 a' h h1 w e Q hw hg he ha K
    simp only [acode, Option.some.injEq, Prod.mk.injEq] at ha
    obtain ⟨rfl, rfl, rfl⟩ := ha
    exact wp_ret (K ρ _ a' w hw (Fr.refl _ _ _) he .ret)
  | region id ops draw =>
    intro hok ρ a a1 a' h h1 w e Q hw hg he ha K
    simp only [codeOk, List.all_eq_true] at hok
    cases draw with
    | false =>
      simp only [acode] at ha
      exact wp_region_list (aops_wp hc hn ops.toList hok ρ a a' h w e a1 h1 hw hg he ha K)
    | true =>
      simp only [acode] at ha
      exact adraw_wp hc md hn (fun o ho => hok o (by simpa using ho)) hw hg he ha K
  | _ =>
    intro _ ρ a a1 a' h h1 w e Q hw hg he ha K
    simp [acode] at ha
end Go.Proofs.YtiffnkmbmenhfaaDoor.Run
/-! Results, a call's first slots, deferred calls. -/
namespace Go.Proofs.YtiffnkmbmenhfaaDoor.Run
open Go Go.RowKit
set_option linter.unusedVariables false
set_option linter.unusedSimpArgs false

/-! ### results -/
noncomputable def semOne (tmps : Array Value) : ResultVar → Sem Value
  | .tmp t => Pure.pure (tmps.getD t undef)
  | .cell a t => do loadVar t (← asAddr (tmps.getD a undef))
noncomputable def absOne (P : Program) (a : Env) (h : AH) : ResultVar → Option Value
  | .tmp t => some (a.eval (.tmp t))
  | .cell t ty => match a.eval (.tmp t) with
    | .pointer (some p) => match arun P (loadVar ty p) h with
      | some (v, _) => some v
      | none => none
    | _ => none
theorem one_run {P : Program} {ρ : Ren} {n : Nat} {a : Env} {a' : Act} {h : AH} {w : World} (hw : WRel ρ h w) (he : EnvRel ρ n a a') (r : ResultVar) {v : Value} (hv : absOne P a h r = some v) : ∃ v', (semOne a'.tmps r).run P w = .ok v' w ∧ VRel ρ v v' := by
  cases r with
  | tmp t =>
    simp only [absOne, Option.some.injEq] at hv
    subst hv
    exact ⟨_, rfl, he.tmp t⟩
  | cell t ty =>
    simp only [absOne] at hv
    have ht := he.tmp t
    split at hv
    · rename_i p hp
      rw [hp] at ht
      obtain ⟨q, hq, e⟩ := vrel_ptr ht
      split at hv
      · rename_i u h2 hr
        simp only [Option.some.injEq] at hv
        subst hv
        obtain ⟨_, u', r1, r2⟩ := RR.loadVar ty (a := p) (a' := ⟨q.b, p.off + q.s, none⟩) ⟨q, hq, rfl⟩ h w hw _ _ hr
        refine ⟨u', ?_, r2⟩
        simp only [semOne, e, asAddr, Sem.run_bind, Sem.run_pure, Result.andThen_ok]
        exact r1
      · simp at hv
    · simp at hv
theorem all_run {P : Program} {ρ : Ren} {n : Nat} {a : Env} {a' : Act} {h : AH} {w : World} (hw : WRel ρ h w) (he : EnvRel ρ n a a') : ∀ (rs : List ResultVar) (vs : List Value), rs.mapM (absOne P a h) = some vs →
    ∃ vs', (rs.mapM (semOne a'.tmps)).run P w = .ok vs' w ∧ LsRel ρ vs vs' ∧ vs.length = rs.length := by
  intro rs
  induction rs with
  | nil =>
    intro vs hvs
    simp only [List.mapM_nil, Option.pure_def, Option.some.injEq] at hvs
    subst hvs
    exact ⟨[], rfl, ⟨rfl, fun i u v hu => by simp at hu⟩, rfl⟩
  | cons r rs ih =>
    intro vs hvs
    simp only [List.mapM_cons, Option.bind_eq_bind, Option.pure_def, Option.bind_eq_some_iff, Option.some.injEq] at hvs
    obtain ⟨v, h1, us, h2, rfl⟩ := hvs
    obtain ⟨v', r1, r2⟩ := one_run hw he r h1
    obtain ⟨us', r3, r4, r5⟩ := ih us h2
    refine ⟨v' :: us', by simp [List.mapM_cons, r1, r3], ⟨by simp [r4.1], fun i x y hx hy => ?_⟩, by simp [r5]⟩
    cases i with
    | zero =>
      simp only [List.getElem?_cons_zero, Option.some.injEq] at hx hy
      subst hx hy
      exact r2
    | succ i => exact r4.2 i x y (by simpa using hx) (by simpa using hy)
theorem aresults_run {P : Program} {ρ : Ren} {n : Nat} {fn : Func} {a : Env} {a' : Act} {h : AH} {w : World} {v : Value} (hw : WRel ρ h w) (he : EnvRel ρ n a a') (hv : aresults P fn a h = some v) : ∃ v', (results fn a'.tmps).run P w = .ok v' w ∧ VRel ρ v v' := by
  have hres : results fn a'.tmps = (do
      let vs ← fn.results.mapM (semOne a'.tmps)
      Pure.pure (if h : vs.size = 1 then vs[0] else .tuple vs)) := by
    unfold results
    congr 1
  have hrun : ∀ vs', (fn.results.toList.mapM (semOne a'.tmps)).run P w = .ok vs' w → (results fn a'.tmps).run P w = .ok (if h : vs'.toArray.size = 1 then vs'.toArray[0] else .tuple vs'.toArray) w := by
    intro vs' hr
    rw [hres, Array.mapM_eq_mapM_toList]
    simp [hr]
  have hone : ∀ r, absOne P a h r = (match r with
    | .tmp t => some (a.eval (.tmp t))
    | .cell t ty => match a.eval (.tmp t) with
      | .pointer (some p) => match arun P (loadVar ty p) h with
        | some (v, _) => some v
        | none => none
      | _ => none) := fun r => by cases r <;> rfl
  unfold aresults at hv
  simp only at hv
  split at hv
  · rename_i hl
    simp only [Option.some.injEq] at hv
    subst hv
    have := hrun [] (by rw [hl]; rfl)
    exact ⟨_, this, undef_rel ρ⟩
  · rename_i r hl
    have hv' : absOne P a h r = some v := by rw [hone]; exact hv
    obtain ⟨v', r1, r2⟩ := one_run hw he r hv'
    have := hrun [v'] (by rw [hl]; simp [List.mapM_cons, r1])
    exact ⟨v', by simpa using this, r2⟩
  · rename_i h0 h1
    split at hv
    · rename_i vs hvs
      simp only [Option.some.injEq] at hv
      subst hv
      have hvs' : fn.results.toList.mapM (absOne P a h) = some vs := by
        rw [← hvs]
        congr 1
      obtain ⟨vs', r1, r2, r3⟩ := all_run hw he _ _ hvs'
      have hr := hrun vs' r1
      have hn : ¬ vs'.toArray.size = 1 := by
        rw [List.size_toArray, ← r2.1, r3]
        intro he1
        match hl : fn.results.toList, he1 with
        | [r], _ => exact h1 r hl
      rw [dif_neg hn] at hr
      exact ⟨_, hr, .tuple _ _ r2.toArray.1 r2.toArray.2⟩
    · simp at hv
/-! ### a call's first slots -/
theorem fillEnv_get : ∀ (l : List Value) (i : Nat) (t : Tr Value) (q : Nat), i + l.length < 1073741824 → (fillEnv i l t).get q = if i ≤ q ∧ q < i + l.length then l[q - i]? else t.get q := by
  intro l
  induction l with
  | nil => intro i t q _; rw [if_neg (by simp)]; rfl
  | cons v l ih =>
    intro i t q hl
    simp only [List.length_cons] at hl
    simp only [fillEnv, List.length_cons]
    rw [ih (i + 1) _ q (by omega), Tr.get_set16 _ _ _ _ (by omega)]
    by_cases h1 : q = i
    · subst h1
      rw [if_neg (by omega), if_pos rfl, if_pos (by omega)]
      simp
    · rw [if_neg h1]
      by_cases h2 : i + 1 ≤ q ∧ q < i + 1 + l.length
      · rw [if_pos h2, if_pos (by omega)]
        have : q - i = (q - (i + 1)) + 1 := by omega
        rw [this, List.getElem?_cons_succ]
      · rw [if_neg h2, if_neg (by omega)]
theorem EnvRel.first {ρ : Ren} (n : Nat) {args args' : Array Value} (h : AsRel ρ args args') (hs : args.size ≤ 1000000) : EnvRel ρ n (Env.of args.toList) { tmps := args' ++ Array.replicate (n - args'.size) undef, defers := [] } := by
  refine ⟨by simp; omega, fun t => ?_, rfl, fun i d d' hd => by simp [Env.of] at hd⟩
  have hget := fillEnv_get args.toList 0 .leaf t (by simp; omega)
  simp only [Nat.zero_le, true_and, Nat.zero_add, Array.length_toList, Nat.sub_zero, Array.getElem?_toList] at hget
  simp only [Env.eval, Env.of, hget]
  by_cases ht : t < args.size
  · rw [if_pos ht, Array.getElem?_eq_getElem ht]
    have ht' : t < args'.size := h.1 ▸ ht
    have : (args' ++ Array.replicate (n - args'.size) undef).getD t undef = args'[t] := by
      rw [Array.getD_eq_getD_getElem?, Array.getElem?_append_left ht', Array.getElem?_eq_getElem ht']
      rfl
    rw [this]
    exact h.2 t _ _ (Array.getElem?_eq_getElem ht) (Array.getElem?_eq_getElem ht')
  · rw [if_neg ht]
    have ht' : args'.size ≤ t := by rw [← h.1]; exact Nat.le_of_not_lt ht
    have : (args' ++ Array.replicate (n - args'.size) undef).getD t undef = undef := by
      rw [Array.getD_eq_getD_getElem?, Array.getElem?_append_right ht', Array.getElem?_replicate]
      split <;> rfl
    rw [this]
    exact undef_rel ρ
/-! ### modes -/
inductive MRel (ρ : Ren) : FrameMode → FrameMode → Prop
  | run : MRel ρ .run .run
  | returning : MRel ρ .returning .returning
  | panicking (c c' : List PanicEntry) (h : ChRel ρ c c') : MRel ρ (.panicking c) (.panicking c')
theorem MRel.mono {ρ ρ' : Ren} (hle : ρ.le ρ') {u u' : FrameMode} (h : MRel ρ u u') : MRel ρ' u u' := by
  cases h with
  | run => exact .run
  | returning => exact .returning
  | panicking c c' h => exact .panicking c c' (h.mono hle)
theorem ChRel.drop {ρ : Ren} : ∀ {c c' : List PanicEntry}, ChRel ρ c c' → ChRel ρ (c.dropWhile (!·.goexit)) (c'.dropWhile (!·.goexit))
  | [], [], _ => trivial
  | x :: xs, y :: ys, h => by
    have e : x.goexit = y.goexit := h.1.2.2
    simp only [List.dropWhile]
    rw [← e]
    cases x.goexit with
    | true => exact h
    | false => exact ChRel.drop h.2
theorem ChRel.append {ρ : Ren} : ∀ {c c' d d' : List PanicEntry}, ChRel ρ c c' → ChRel ρ d d' → ChRel ρ (c ++ d) (c' ++ d')
  | [], [], _, _, _, h => h
  | _ :: _, _ :: _, _, _, h, k => ⟨h.1, ChRel.append h.2 k⟩
theorem settle_rel {ρ : Ren} {u u' : FrameMode} (h : MRel ρ u u') : MRel ρ (settle u) (settle u') := by
  cases h with
  | run => exact .run
  | returning => exact .returning
  | panicking c c' h =>
    match c, c', h with
    | [], [], _ => exact .panicking _ _ trivial
    | ⟨v, r, g⟩ :: xs, ⟨v', r', g'⟩ :: ys, h =>
      have e : r = r' := h.1.2.1
      subst e
      cases r with
      | false => exact .panicking _ _ h
      | true =>
        have hd := ChRel.drop h.2
        simp only [settle]
        generalize xs.dropWhile (!·.goexit) = p at hd
        generalize ys.dropWhile (!·.goexit) = q at hd
        match p, q, hd with
        | [], [], _ => exact .returning
        | _ :: _, _ :: _, hd => exact .panicking _ _ hd
theorem raised_rel {ρ : Ren} {u u' : FrameMode} (h : MRel ρ u u') {c c' : List PanicEntry} (hc : ChRel ρ c c') : MRel ρ (raised u c) (raised u' c') := by
  cases h with
  | run => exact .panicking _ _ hc
  | returning => exact .panicking _ _ hc
  | panicking d d' h => exact .panicking _ _ (hc.append h)
end Go.Proofs.YtiffnkmbmenhfaaDoor.Run
/-! Deferred code: it may take what its caller panics with. -/
namespace Go.Proofs.YtiffnkmbmenhfaaDoor.Run
open Go Go.RowKit
set_option linter.unusedVariables false
set_option linter.unusedSimpArgs false

/-- What is asked where deferred code ends: its caller's frame has another mode. -/
def PostS (ρ : Ren) (h : AH) (w : World) (n : Nat) (c₀ : Frame) (cs : List Frame) (e : Exit) (a1 : Env) (u1 : FrameMode) (h1 : AH) (Q : Exit → Act → List Frame → World → Prop) : Prop :=
  ∀ ρ1 e' a1' u1' w1, WRel ρ1 h1 w1 → Fr ρ h w ρ1 h1 w1 → EnvRel ρ1 n a1 a1' → XRel ρ1 e e' → MRel ρ1 u1 u1' → Q e' a1' ({ c₀ with mode := u1' } :: cs) w1
theorem PostS.after {ρ ρ1 : Ren} {h h1 h2 : AH} {w w1 : World} {n : Nat} {c₀ : Frame} {cs : List Frame} {e : Exit} {a2 : Env} {u2 : FrameMode} {Q : Exit → Act → List Frame → World → Prop} (fr : Fr ρ h w ρ1 h1 w1) (K : PostS ρ h w n c₀ cs e a2 u2 h2 Q) : PostS ρ1 h1 w1 n c₀ cs e a2 u2 h2 Q :=
  fun ρ2 e' a' u' w2 k1 k2 k3 k4 k5 => K ρ2 e' a' u' w2 k1 (fr.trans k2) k3 k4 k5
theorem PostS.other {ρ : Ren} {h : AH} {w : World} {n : Nat} {c₀ : Frame} {cs : List Frame} {e : Exit} {a1 : Env} {u1 : FrameMode} {h1 : AH} {Q : Exit → Act → List Frame → World → Prop} {next : Act → List Frame → World → Prop} (hne : e ≠ .normal) (K : PostS ρ h w n c₀ cs e a1 u1 h1 Q) :
    PostS ρ h w n c₀ cs e a1 u1 h1 (Exit.thenS next Q) := by
  intro ρ1 e' a1' u1' w1 k1 k2 k3 k4 k5
  have := K ρ1 e' a1' u1' w1 k1 k2 k3 k4 k5
  cases k4 with
  | normal => exact absurd rfl hne
  | exit i => exact this
  | ret => exact this
  | panic c c' h => exact this
section
variable {P : Program} {call : ACall} {n : Nat}
theorem aopsS_wp (hc : CallOk P call) (hn : n < 1000000) {ops : Array Oper} {Q : Exit → Act → List Frame → World → Prop} {c₀ : Frame} {cs : List Frame} : ∀ (l : List Oper) (k : Nat), (∀ j, l[j]? = ops[k + j]?) → (∀ o ∈ l, operOk P n o = true) →
    ∀ (ρ : Ren) (a a1 : Env) (a' : Act) (u u0 u1 : FrameMode) (h h1 : AH) (w : World) (e : Exit), WRel ρ h w → Gl P ρ → EnvRel ρ n a a' → MRel ρ u u0 → aopsS P call ops l a u h = some (e, a1, u1, h1) → PostS ρ h w n c₀ cs e a1 u1 h1 Q →
      wpOpsS P ops Q (List.range' k l.length) a' ({ c₀ with mode := u0 } :: cs) w := by
  intro l
  induction l with
  | nil =>
    intro k _ _ ρ a a1 a' u u0 u1 h h1 w e hw hg he hu ha K
    simp only [aopsS, Option.some.injEq, Prod.mk.injEq] at ha
    obtain ⟨rfl, rfl, rfl, rfl⟩ := ha
    exact K ρ _ a' u0 w hw (Fr.refl _ _ _) he .normal hu
  | cons o rest ih =>
    intro k hk hl ρ a a1 a' u u0 u1 h h1 w e hw hg he hu ha K
    have ho := hl o (List.mem_cons_self ..)
    have hrest : ∀ o ∈ rest, operOk P n o = true := fun x hx => hl x (List.mem_cons_of_mem _ hx)
    have hkr : ∀ j, rest[j]? = ops[k + 1 + j]? := fun j => by
      have := hk (j + 1)
      simp only [List.getElem?_cons_succ] at this
      rw [this]
      congr 1
      omega
    have hdst := (operOk_spec ho).2
    have hok : ops[k]? = some o := by
      have := hk 0
      simp only [List.getElem?_cons_zero, Nat.add_zero] at this
      exact this.symm
    simp only [List.length_cons, List.range'_succ, wpOpsS, hok]
    rw [he.wanted]
    simp only [aopsS] at ha
    cases hwt : wantedE o ops a with
    | false =>
      rw [hwt] at ha
      simp only at ha
      rw [if_neg (by simp)]
      exact ih (k + 1) hkr hrest ρ _ _ _ u u0 u1 h h1 w e hw hg (he.put (undef_rel ρ) hdst hn) hu ha K
    | true =>
      rw [hwt] at ha
      simp only at ha
      rw [if_pos rfl]
      split at ha
      · rename_i hop
        have hr : (execOp a'.eval o).run P w = .ok .recover w := by
          simp [execOp, hop, resolve, invoke, builtin]
        rw [hr]
        simp only
        split at ha
        · rename_i v older
          cases hu with
          | panicking c c' hcc =>
            match c', hcc with
            | ⟨v', r', g'⟩ :: older', hcc =>
              obtain ⟨⟨h1', h2', h3'⟩, h4'⟩ := hcc
              simp only at h1' h2' h3'
              subst h2' h3'
              simp only [recoverD]
              exact ih (k + 1) hkr hrest ρ _ _ _ _ (.panicking ({ v := v', recovered := true } :: older')) u1 h h1 w e hw hg (he.put h1' hdst hn) (.panicking ({ v := v, recovered := true } :: older) _ ⟨⟨h1', rfl, rfl⟩, h4'⟩) ha K
        · rename_i hnot
          have hnone : recoverD (({ c₀ with mode := u0 } : Frame) :: cs) = none := by
            simp only [recoverD]
            cases hu with
            | run => rfl
            | returning => rfl
            | panicking c c' hcc =>
              match c, c', hcc with
              | [], [], _ => rfl
              | ⟨v, r, g⟩ :: older, ⟨v', r', g'⟩ :: older', hcc =>
                obtain ⟨⟨h1', h2', h3'⟩, h4'⟩ := hcc
                simp only at h1' h2' h3'
                subst h2' h3'
                cases r with
                | true => rfl
                | false => cases g with
                  | true => rfl
                  | false => exact absurd rfl (hnot v older)
          rw [hnone]
          exact ih (k + 1) hkr hrest ρ _ _ _ _ u0 u1 h h1 w e hw hg (he.put .nilIface hdst hn) hu ha K
      · cases hx : aop P call o a h with
        | none => rw [hx] at ha; simp at ha
        | some r =>
          obtain ⟨e2, a2, h2⟩ := r
          rw [hx] at ha
          have hup : o.wp P a' w (fun a2' w' => wpOpsS P ops Q (List.range' (k + 1) rest.length) a2' ({ c₀ with mode := u0 } :: cs) w') (fun e' a2' w' => Q e' a2' ({ c₀ with mode := u0 } :: cs) w') := by
            refine aop_wp hc hw hg (he.ops hg ho) hx ⟨?_, ?_, ?_⟩
            · intro ρ1 w1 v v' k1 k2 k3 e1 e3
              subst e1 e3
              simp only at ha
              exact ih (k + 1) hkr hrest ρ1 _ _ _ u u0 u1 h2 h1 w1 e k1 (hg.mono k2.le) ((he.mono k2.le).put k3 hdst hn) (hu.mono k2.le) ha (K.after k2)
            · intro ρ1 w1 d d' k1 k2 k3 e1 e3
              subst e1 e3
              simp only at ha
              exact ih (k + 1) hkr hrest ρ1 _ _ _ u u0 u1 h2 h1 w1 e k1 (hg.mono k2.le) (((he.mono k2.le).defer k3).put (undef_rel ρ1) hdst hn) (hu.mono k2.le) ha (K.after k2)
            · intro ρ1 w1 ch ch' k1 k2 k3 e1 e3
              subst e1 e3
              simp only [Option.some.injEq, Prod.mk.injEq] at ha
              obtain ⟨rfl, rfl, rfl, rfl⟩ := ha
              exact K ρ1 _ a' u0 w1 k1 k2 (he.mono k2.le) (.panic ch ch' k3) (hu.mono k2.le)
          unfold Oper.wp at hup
          split
          · rename_i hr
            rw [hr] at hup
            exact hup.elim
          · exact hup
theorem wpOpsS_list {ops : Array Oper} {Q : Exit → Act → List Frame → World → Prop} {a' : Act} {cs : List Frame} {w : World} (h : wpOpsS P ops Q (List.range' 0 ops.toList.length) a' cs w) : wpOpsS P ops Q (List.range ops.size) a' cs w := by
  rw [List.range_eq_range']
  simpa using h
theorem acodeS_wp (hc : CallOk P call) (md : P.follows .mixedOrders = true) (hn : n < 1000000) (N : Nat) {c₀ : Frame} {cs : List Frame} : ∀ (c : Code), codeOk P n c = true →
    ∀ (ρ : Ren) (a a1 : Env) (a' : Act) (u u0 u1 : FrameMode) (h h1 : AH) (w : World) (e : Exit) (Q : Exit → Act → List Frame → World → Prop), WRel ρ h w → Gl P ρ → EnvRel ρ n a a' → MRel ρ u u0 → acodeS P call N c a u h = some (e, a1, u1, h1) → PostS ρ h w n c₀ cs e a1 u1 h1 Q →
      c.wpS P Q a' ({ c₀ with mode := u0 } :: cs) w := by
  have plain : ∀ (c : Code), codeOk P n c = true → ∀ (ρ : Ren) (a a1 : Env) (a' : Act) (u u0 u1 : FrameMode) (h h1 : AH) (w : World) (e : Exit) (Q : Exit → Act → List Frame → World → Prop), WRel ρ h w → Gl P ρ → EnvRel ρ n a a' → MRel ρ u u0 →
      (∃ e2 a2 h2, acode P call N c a h = some (e2, a2, h2) ∧ (e2, a2, u, h2) = (e, a1, u1, h1)) → PostS ρ h w n c₀ cs e a1 u1 h1 Q → c.wpS P Q a' ({ c₀ with mode := u0 } :: cs) w := by
    intro c hok ρ a a1 a' u u0 u1 h h1 w e Q hw hg he hu ha K
    obtain ⟨e2, a2, h2, hx, hr⟩ := ha
    simp only [Prod.mk.injEq] at hr
    obtain ⟨rfl, rfl, rfl, rfl⟩ := hr
    exact wpS_of_wp (acode_wp hc md hn N c hok ρ a _ a' h _ w _ _ hw hg he hx fun ρ1 e' a1' w1 k1 k2 k3 k4 => K ρ1 e' a1' u0 w1 k1 k2 k3 k4 (hu.mono k2.le))
  intro c
  induction c with
  | seq x y ihx ihy =>
    intro hok ρ a a1 a' u u0 u1 h h1 w e Q hw hg he hu ha K
    simp only [codeOk, Bool.and_eq_true] at hok
    simp only [acodeS] at ha
    refine wpS_seq ?_
    cases hx : acodeS P call N x a u h with
    | none => rw [hx] at ha; simp at ha
    | some r =>
      obtain ⟨e2, a2, u2, h2⟩ := r
      rw [hx] at ha
      have other : e2 ≠ .normal → x.wpS P (Exit.thenS (y.wpS P Q) Q) a' ({ c₀ with mode := u0 } :: cs) w := by
        intro hne
        have hr : (e2, a2, u2, h2) = (e, a1, u1, h1) := by cases e2 <;> first | exact absurd rfl hne | (simpa using ha)
        simp only [Prod.mk.injEq] at hr
        obtain ⟨rfl, rfl, rfl, rfl⟩ := hr
        exact ihx hok.1 ρ a _ a' u u0 _ h _ w _ _ hw hg he hu hx (K.other hne)
      cases e2 with
      | normal =>
        simp only at ha
        refine ihx hok.1 ρ a a2 a' u u0 u2 h h2 w .normal _ hw hg he hu hx fun ρ1 e' a1' u1' w1 k1 k2 k3 k4 k5 => ?_
        cases k4 with
        | normal => exact ihy hok.2 ρ1 a2 a1 a1' u2 u1' u1 h2 h1 w1 e Q k1 (hg.mono k2.le) k3 k5 ha (K.after k2)
      | _ => exact other (by simp)
  | cond c x y ihx ihy =>
    intro hok ρ a a1 a' u u0 u1 h h1 w e Q hw hg he hu ha K
    simp only [codeOk, Bool.and_eq_true] at hok
    simp only [acodeS] at ha
    have hcr := he.eval hg hok.1
    split at ha
    · rename_i hcv
      rw [hcv] at hcr
      exact wpS_cond (t := true) (vrel_bool hcr) (ihx hok.2.1 ρ a a1 a' u u0 u1 h h1 w e Q hw hg he hu ha K)
    · rename_i hcv
      rw [hcv] at hcr
      exact wpS_cond (t := false) (vrel_bool hcr) (ihy hok.2.2 ρ a a1 a' u u0 u1 h h1 w e Q hw hg he hu ha K)
    · simp at ha
  | region id ops draw =>
    intro hok ρ a a1 a' u u0 u1 h h1 w e Q hw hg he hu ha K
    cases draw with
    | false =>
      simp only [codeOk, List.all_eq_true] at hok
      simp only [acodeS] at ha
      exact wpS_region (wpOpsS_list (aopsS_wp hc hn ops.toList 0 (fun j => by simp) hok ρ a a1 a' u u0 u1 h h1 w e hw hg he hu ha K))
    | true => exact plain _ hok ρ a a1 a' u u0 u1 h h1 w e Q hw hg he hu (by
      simp only [acodeS] at ha
      split at ha
      · rename_i e2 a2 h2 hx
        exact ⟨_, _, _, hx, by simpa using ha⟩
      · simp at ha) K
  | _ =>
    intro hok ρ a a1 a' u u0 u1 h h1 w e Q hw hg he hu ha K
    exact plain _ hok ρ a a1 a' u u0 u1 h h1 w e Q hw hg he hu (by
      simp only [acodeS] at ha
      split at ha
      · rename_i e2 a2 h2 hx
        exact ⟨_, _, _, hx, by simpa using ha⟩
      · simp at ha) K
end
end Go.Proofs.YtiffnkmbmenhfaaDoor.Run
/-! Calls: what is run over rows is run over blocks. -/
namespace Go.Proofs.YtiffnkmbmenhfaaDoor.Run
open Go Go.RowKit
set_option linter.unusedVariables false
set_option linter.unusedSimpArgs false

section
variable {P : Program} {call : ACall}
theorem fnOk_spec {f : FuncId} {fn : Func} {c : Code} (h : fnOk P f = true) (hf : P.funcs[f]? = some fn) (hb : fn.body = some c) : fn.ntmps < 1000000 ∧ codeOk P fn.ntmps c = true := by
  unfold fnOk at h
  rw [hf] at h
  simp only [hb, Bool.and_eq_true, decide_eq_true_eq] at h
  exact h
/-- The deferred calls that are left, then the end. -/
theorem aleave_wp (hc : CallOk P call) (md : P.follows .mixedOrders = true) (N : Nat) {fn : Func} {n : Nat} {b : Env} {tmps : Array Value} {R : Ending → World → Prop} : ∀ (ds ds' : List Deferred) (u u0 : FrameMode) (ρ : Ren) (h h1 : AH) (w : World) (e : AEnd),
    ds.length = ds'.length → (∀ (i : Nat) d d', ds[i]? = some d → ds'[i]? = some d' → DRel ρ d d') → MRel ρ u u0 → WRel ρ h w → Gl P ρ → (∀ t, VRel ρ (b.eval (.tmp t)) (tmps.getD t undef)) → aleave P call N fn b ds u h = some (e, h1) →
      (∀ ρ1 e' w1, WRel ρ1 h1 w1 → Fr ρ h w ρ1 h1 w1 → ERel ρ1 e e' → R e' w1) → Leaves P fn tmps R ds' u0 w := by
  intro ds
  induction ds with
  | nil =>
    intro ds' u u0 ρ h h1 w e hl hd hu hw hg hb ha K
    have : ds' = [] := List.eq_nil_of_length_eq_zero (by simpa using hl.symm)
    subst this
    cases hu with
    | run => simp [aleave] at ha
    | returning =>
      simp only [aleave] at ha
      split at ha
      · rename_i v hv
        simp only [Option.some.injEq, Prod.mk.injEq] at ha
        obtain ⟨rfl, rfl⟩ := ha
        have he : EnvRel ρ 0 ⟨b.t, []⟩ ⟨tmps, []⟩ := ⟨Nat.zero_le _, fun t => by cases b; exact hb t, rfl, fun i d d' h => by simp at h⟩
        have hv' : aresults P fn ⟨b.t, []⟩ h = some v := by cases b; exact hv
        obtain ⟨v', r1, r2⟩ := aresults_run hw he hv'
        exact ⟨v', r1, K ρ _ w hw (Fr.refl _ _ _) (.returned v v' r2)⟩
      · simp at ha
    | panicking c c' hcc =>
      simp only [aleave, Option.some.injEq, Prod.mk.injEq] at ha
      obtain ⟨rfl, rfl⟩ := ha
      exact K ρ _ w hw (Fr.refl _ _ _) (.panicked c c' hcc)
  | cons d ds ih =>
    intro ds' u u0 ρ h h1 w e hl hd hu hw hg hb ha K
    match ds', hl with
    | d' :: ds', hl =>
      have hd0 := hd 0 d d' rfl rfl
      have hds : ∀ (i : Nat) x x', ds[i]? = some x → ds'[i]? = some x' → DRel ρ x x' := fun i x x' h1 h2 => hd (i + 1) x x' (by simpa using h1) (by simpa using h2)
      have hl' : ds.length = ds'.length := by simpa using hl
      have hu0 : u0 ≠ .run := by
        intro e0
        subst e0
        cases hu with
        | run => simp [aleave] at ha
      simp only [aleave] at ha
      split at ha
      · simp at ha
      · rename_i u u3 x2 f cap hne htar
        split at ha
        · rename_i g hfok hfun
          simp only [Bool.and_eq_true] at hfok
          obtain ⟨⟨hfine, hok⟩, hsz⟩ := hfok
          split at ha
          · rename_i c hbody
            split at ha
            · rename_i e2 a2 u2 h2 hcode
              split at ha
              · rename_i hnil
                obtain ⟨hn, hcok⟩ := fnOk_spec hok hfun hbody
                obtain ⟨ht, hargs⟩ := hd0
                rw [htar] at ht
                obtain ⟨t', args'⟩ := d'
                simp only at ht hargs
                cases ht with
                | fn _ _ cap' hcap =>
                  have hinv : (invoke (.fn (.func f) cap') args').run P w = .ok (.enter f (args' ++ cap')) w := by
                    simp only [invoke]
                    exact run_callFunc hfine _ w
                  refine leaves_cons hu0 hinv (callsD_of_wpS hfun hbody fun c₀ cs hmode => ?_)
                  have he0 := EnvRel.first (ρ := ρ) g.ntmps (hargs.append hcap) (by rw [Array.size_append]; exact Nat.le_of_ble_eq_true hsz)
                  have hwp := acodeS_wp hc md hn N (c₀ := c₀) (cs := cs) c hcok ρ _ a2 _ u u0 u2 h h2 w e2 (bodyPostS P g c₀ cs fun
                      | .returned _, u', w' => Leaves P fn tmps R ds' (settle u') w'
                      | .panicked chain, u', w' => Leaves P fn tmps R ds' (raised u' chain) w'
                      | .outgrown, _, w' => R .outgrown w') hw hg he0 hu hcode ?_
                  · rw [← hmode] at hwp
                    exact hwp
                  · intro ρ1 e' a1' u1' w1 k1 k2 k3 k4 k5
                    have hdef : a1'.defers = [] := List.eq_nil_of_length_eq_zero (by rw [← k3.len, hnil]; rfl)
                    have rest : ∀ (u3 u3' : FrameMode), MRel ρ1 u3 u3' → aleave P call N fn b ds u3 h2 = some (e, h1) → Leaves P fn tmps R ds' u3' w1 := fun u3 u3' hu3 ha3 =>
                      ih ds' u3 u3' ρ1 h2 h1 w1 e hl' (fun i x x' h1 h2 => (hds i x x' h1 h2).mono k2.le) hu3 k1 (hg.mono k2.le) (fun t => (hb t).mono k2.le) ha3 fun ρ2 e' w2 j1 j2 j3 => K ρ2 e' w2 j1 (k2.trans j2) j3
                    cases k4 with
                    | normal =>
                      simp only at ha
                      split at ha
                      · rename_i hres
                        obtain ⟨v, hv⟩ := Option.isSome_iff_exists.1 hres
                        obtain ⟨v', r1, r2⟩ := aresults_run k1 k3 hv
                        exact ⟨hdef, u1', rfl, v', r1, rest _ _ (settle_rel k5) ha⟩
                      · simp at ha
                    | ret =>
                      simp only at ha
                      split at ha
                      · rename_i hres
                        obtain ⟨v, hv⟩ := Option.isSome_iff_exists.1 hres
                        obtain ⟨v', r1, r2⟩ := aresults_run k1 k3 hv
                        exact ⟨hdef, u1', rfl, v', r1, rest _ _ (settle_rel k5) ha⟩
                      · simp at ha
                    | exit i => simp at ha
                    | panic ch ch' hch =>
                      simp only at ha
                      exact ⟨hdef, u1', rfl, rest _ _ (raised_rel k5 hch) ha⟩
              · simp at ha
            · simp at ha
          · simp at ha
        · simp at ha
      · simp at ha
/-- A call that is run over rows is run. -/
theorem acall_ok (md : P.follows .mixedOrders = true) (N : Nat) : ∀ m, CallOk P (acall P N m) := by
  intro m
  induction m with
  | zero => intro f args args' h w ρ e h1 _ _ _ ha; simp [acall] at ha
  | succ m ih =>
    intro f args args' h w ρ e h1 hw hg hargs ha
    simp only [acall] at ha
    split at ha
    · rename_i fn hfok hfun
      simp only [Bool.and_eq_true] at hfok
      obtain ⟨hok, hsz⟩ := hfok
      split at ha
      · simp at ha
      · rename_i c hbody
        obtain ⟨hn, hcok⟩ := fnOk_spec hok hfun hbody
        refine calls_of_wp_defers hfun hbody ?_
        have he0 := EnvRel.first (ρ := ρ) fn.ntmps hargs (Nat.le_of_ble_eq_true hsz)
        have go : ∀ (e2 : Exit) (a2 : Env) (h2 : AH), acode P (acall P N m) N c (Env.of args.toList) h = some (e2, a2, h2) →
            (∀ ρ1 e' a1' w1, WRel ρ1 h2 w1 → Fr ρ h w ρ1 h2 w1 → EnvRel ρ1 fn.ntmps a2 a1' → XRel ρ1 e2 e' → bodyPostD P fn (fun e' w' => ∃ ρ1, WRel ρ1 h1 w' ∧ Fr ρ h w ρ1 h1 w' ∧ ERel ρ1 e e') e' a1' w1) →
            c.wp P (bodyPostD P fn fun e' w' => ∃ ρ1, WRel ρ1 h1 w' ∧ Fr ρ h w ρ1 h1 w' ∧ ERel ρ1 e e') { tmps := args' ++ Array.replicate (fn.ntmps - args'.size) undef, defers := [] } w :=
          fun e2 a2 h2 hcode K => acode_wp ih md hn N c hcok ρ _ a2 _ h h2 w e2 _ hw hg he0 hcode K
        have leave : ∀ (ρ1 : Ren) (a2 : Env) (a1' : Act) (h2 : AH) (w1 : World) (u u0 : FrameMode), WRel ρ1 h2 w1 → Fr ρ h w ρ1 h2 w1 → EnvRel ρ1 fn.ntmps a2 a1' → MRel ρ1 u u0 → aleave P (acall P N m) N fn a2 a2.defers u h2 = some (e, h1) →
            Leaves P fn a1'.tmps (fun e' w' => ∃ ρ1, WRel ρ1 h1 w' ∧ Fr ρ h w ρ1 h1 w' ∧ ERel ρ1 e e') a1'.defers u0 w1 :=
          fun ρ1 a2 a1' h2 w1 u u0 k1 k2 k3 k5 hl => aleave_wp ih md N (n := fn.ntmps) _ _ u u0 ρ1 h2 h1 w1 e k3.len k3.defers k5 k1 (hg.mono k2.le) k3.tmp hl fun ρ2 e' w2 j1 j2 j3 => ⟨ρ2, j1, k2.trans j2, j3⟩
        split at ha
        · rename_i a2 h2 hcode
          refine go _ _ _ hcode fun ρ1 e' a1' w1 k1 k2 k3 k4 => ?_
          cases k4 with
          | normal => exact leave ρ1 a2 a1' h2 w1 _ _ k1 k2 k3 .returning ha
        · rename_i a2 h2 hcode
          refine go _ _ _ hcode fun ρ1 e' a1' w1 k1 k2 k3 k4 => ?_
          cases k4 with
          | ret => exact leave ρ1 a2 a1' h2 w1 _ _ k1 k2 k3 .returning ha
        · rename_i ch a2 h2 hcode
          refine go _ _ _ hcode fun ρ1 e' a1' w1 k1 k2 k3 k4 => ?_
          cases k4 with
          | panic _ ch' hch => exact leave ρ1 a2 a1' h2 w1 _ _ k1 k2 k3 (.panicking _ _ hch) ha
        · simp at ha
    · simp at ha
end
end Go.Proofs.YtiffnkmbmenhfaaDoor.Run
