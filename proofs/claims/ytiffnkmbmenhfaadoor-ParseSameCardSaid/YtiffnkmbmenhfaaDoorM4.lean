import Derived.Test.YtiffnkmbmenhfaaDoorM3
import Derived.Calls
import Derived.Tactics
/-! One operation, with the calls that it makes. -/
namespace Go.Proofs.YtiffnkmbmenhfaaDoor.Run
open Go Go.RowKit
set_option linter.unusedVariables false
set_option linter.unusedSimpArgs false

def PRel (ρ : Ren) (x y : PanicEntry) : Prop := VRel ρ x.v y.v ∧ x.recovered = y.recovered ∧ x.goexit = y.goexit
def ChRel (ρ : Ren) : List PanicEntry → List PanicEntry → Prop
  | [], [] => True
  | x :: xs, y :: ys => PRel ρ x y ∧ ChRel ρ xs ys
  | _, _ => False
theorem ChRel.mono {ρ ρ' : Ren} (hle : ρ.le ρ') : ∀ {x y : List PanicEntry}, ChRel ρ x y → ChRel ρ' x y
  | [], [], _ => trivial
  | _ :: _, _ :: _, h => ⟨⟨h.1.1.mono hle, h.1.2⟩, ChRel.mono hle h.2⟩
inductive ERel (ρ : Ren) : AEnd → Ending → Prop
  | returned (v v' : Value) (h : VRel ρ v v') : ERel ρ (.returned v) (.returned v')
  | panicked (c c' : List PanicEntry) (h : ChRel ρ c c') : ERel ρ (.panicked c) (.panicked c')
/-- What is asked of calls. -/
def CallOk (P : Program) (call : ACall) : Prop := ∀ f args args' h w ρ e h1, WRel ρ h w → Gl P ρ → AsRel ρ args args' → call f args h = some (e, h1) →
  Calls P f args' w fun e' w' => ∃ ρ1, WRel ρ1 h1 w' ∧ Fr ρ h w ρ1 h1 w' ∧ ERel ρ1 e e'

theorem brun_arun {α : Type} (P : Program) (s : Sem α) : ∀ (h : AH) (a : α), brun P s h = some a → arun P s h = some (a, h) := by
  induction s with
  | pure x => intro h a e; simp only [brun, Option.some.injEq] at e; subst e; rfl
  | load m x k ih =>
    intro h a e
    simp only [brun] at e
    simp only [arun]
    split at e
    · exact ih _ _ _ e
    · simp at e
  | getObj r k ih =>
    intro h a e
    simp only [brun] at e
    simp only [arun]
    split at e
    · rename_i o ho
      exact ih _ _ _ e
    · simp at e
  | program k ih => intro h a e; exact ih _ _ _ e
  | mark m k ih => intro h a e; exact ih _ _ e
  | _ => intro h a e; simp [brun] at e
/-- What one operation leads to. -/
structure Aims (P : Program) (ρ : Ren) (h : AH) (w : World) (o : Oper) (a : Env) (a' : Act) (e : Exit) (a1 : Env) (h1 : AH) (next : Act → World → Prop) (Q : Exit → Act → World → Prop) : Prop where
  kv : ∀ ρ1 w1 v v', WRel ρ1 h1 w1 → Fr ρ h w ρ1 h1 w1 → VRel ρ1 v v' → e = .normal → a1 = a.put o.dst v → next (a'.put o.dst v') w1
  kd : ∀ ρ1 w1 d d', WRel ρ1 h1 w1 → Fr ρ h w ρ1 h1 w1 → DRel ρ1 d d' → e = .normal → a1 = Env.put ⟨a.t, d :: a.defers⟩ o.dst undef → next ({ a' with defers := d' :: a'.defers }.put o.dst undef) w1
  kp : ∀ ρ1 w1 ch ch', WRel ρ1 h1 w1 → Fr ρ h w ρ1 h1 w1 → ChRel ρ1 ch ch' → e = .panic ch → a1 = a → Q (.panic ch') a' w1

theorem maxDepth_succ : Op.maxDepth = 9999 + 1 := rfl
theorem nilCmp_equal {P : Program} {ρ : Ren} {t : TypeId} {x y x' y' : Value} {b : Bool} (hx : VRel ρ x x') (hy : VRel ρ y y') (h : nilCmp P t x y = some b) (w : World) :
    (Op.equal t x' y').run P w = .ok b w ∧ (∀ op p q, (eqGuard op t p q x' y').run P w = .ok () w) ∧ binOp .eql t x' y' = (do pure (.bool (← Op.equal t x' y'))) ∧ binOp .neq t x' y' = (do pure (.bool (!(← Op.equal t x' y')))) := by
  have hg : ∀ op p q, (∀ a, x' ≠ .agg a) → ¬ (x' = .nilIface ∧ y' = .nilIface) → (eqGuard op t p q x' y').run P w = .ok () w := by
    intro op p q h1 h2
    unfold eqGuard
    cases op <;> simp <;> (split <;> first
      | exact absurd ⟨rfl, rfl⟩ h2
      | exact absurd rfl (h1 _)
      | simp)
  unfold nilCmp at h
  split at h <;> first
    | (simp at h; done)
    | (rename_i hu
       simp only [Option.some.injEq] at h
       subst h
       cases hx <;> cases hy <;> refine ⟨?_, fun op p q => hg op p q (fun a e => by cases e) (fun e => by first | (cases e.1; done) | (cases e.2; done)), rfl, rfl⟩ <;>
         (unfold Op.equal
          rw [maxDepth_succ]
          generalize 9999 = d
          simp [Op.equalIn, run_underlying hu]))

section
variable {P : Program} {ρ : Ren} {h h1 : AH} {w : World} {o : Oper} {a a1 : Env} {a' : Act} {e : Exit} {next : Act → World → Prop} {Q : Exit → Act → World → Prop}
theorem done_wp (hw : WRel ρ h w) {v v' : Value} (hv : VRel ρ v v') (hr : (execOp a'.eval o).run P w = .ok (.value v') w) (ha : done o a h v = some (e, a1, h1)) (K : Aims P ρ h w o a a' e a1 h1 next Q) : o.wp P a' w next Q := by
  simp only [done, Option.some.injEq, Prod.mk.injEq] at ha
  obtain ⟨rfl, rfl, rfl⟩ := ha
  unfold Oper.wp
  rw [hr]
  exact K.kv ρ w v v' hw (Fr.refl _ _ _) hv rfl rfl
theorem generic_wp (hw : WRel ρ h w) (hops : OpsRel ρ o.op a.eval a'.eval) (hst : StrOk a.eval o.op) (ha : generic P o a h = some (e, a1, h1)) (K : Aims P ρ h w o a a' e a1 h1 next Q) : o.wp P a' w next Q := by
  unfold generic at ha
  cases hok : opOk P o.op with
  | false => rw [hok] at ha; simp at ha
  | true =>
    rw [hok] at ha
    have sr := SR.op hok hops hst h w hw
    cases hh : heapOp o.op with
    | true =>
      rw [hh] at ha
      dsimp only at ha
      split at ha
      · rename_i v h' hr
        simp only [Option.some.injEq, Prod.mk.injEq] at ha
        obtain ⟨rfl, rfl, rfl⟩ := ha
        obtain ⟨ρ1, n', w1, r1, w1r, hn, fr⟩ := sr _ _ hr
        cases hn with
        | value v v' hv =>
          unfold Oper.wp
          rw [r1]
          exact K.kv ρ1 w1 v v' w1r fr hv rfl rfl
      · rename_i h' hr
        simp only [Option.some.injEq, Prod.mk.injEq] at ha
        obtain ⟨rfl, rfl, rfl⟩ := ha
        obtain ⟨ρ1, n', w1, r1, w1r, hn, fr⟩ := sr _ _ hr
        cases hn with
        | skip =>
          unfold Oper.wp
          rw [r1]
          exact K.kv ρ1 w1 undef undef w1r fr (undef_rel _) rfl rfl
      · rename_i d h' hr
        simp only [Option.some.injEq, Prod.mk.injEq] at ha
        obtain ⟨rfl, rfl, rfl⟩ := ha
        obtain ⟨ρ1, n', w1, r1, w1r, hn, fr⟩ := sr _ _ hr
        cases hn with
        | defer d d' hd =>
          unfold Oper.wp
          rw [r1]
          exact K.kd ρ1 w1 d d' w1r fr hd rfl rfl
      · simp at ha
    | false =>
      rw [hh] at ha
      dsimp only at ha
      split at ha
      · rename_i v hr
        simp only [Option.some.injEq, Prod.mk.injEq] at ha
        obtain ⟨rfl, rfl, rfl⟩ := ha
        obtain ⟨ρ1, n', w1, r1, w1r, hn, fr⟩ := sr _ _ (brun_arun P _ _ _ hr)
        cases hn with
        | value v v' hv =>
          unfold Oper.wp
          rw [r1]
          exact K.kv ρ1 w1 v v' w1r fr hv rfl rfl
      · simp at ha
theorem gop_wp (hw : WRel ρ h w) (hops : OpsRel ρ o.op a.eval a'.eval) (hsel : ∀ cs b, o.op ≠ .select cs b) (ha : gop P o a h = some (e, a1, h1)) (K : Aims P ρ h w o a a' e a1 h1 next Q) : o.wp P a' w next Q := by
  unfold gop at ha
  split at ha
  · rename_i hall
    rw [List.all_eq_true] at hall
    split at ha
    · rename_i v hr
      split at ha
      · rename_i hgv
        have heq : execOp a'.eval o = execOp a.eval o := execOp_congr o hsel fun x hx => ground_eq 8 _ _ (hall x (by simpa using hx)) (hops x hx)
        exact done_wp hw (ground_rel ρ 8 v hgv) (by rw [heq]; exact prun_run P _ _ hr w) ha K
      · simp at ha
    · simp at ha
  · simp at ha
theorem oRel_map {ρ : Ren} {ev ev' : Operand → Value} (x : Option Operand) (h : ∀ y, x = some y → VRel ρ (ev y) (ev' y)) : ORelV ρ (x.map ev) (x.map ev') := by
  cases x with
  | none => exact ⟨fun v hv => by simp at hv, fun _ => rfl⟩
  | some y => exact ⟨fun v hv => by simp only [Option.map_some, Option.some.injEq] at hv; subst hv; exact ⟨_, rfl, h y rfl⟩, fun hv => by simp at hv⟩
theorem fnFine_spec {P : Program} {g : FuncId} (h : fnFine P g = true) : ∃ fn, P.funcs[g]? = some fn ∧ fn.name ≠ "runtime.NumGoroutine" ∧ fn.body.isNone = false := by
  unfold fnFine at h
  cases hf : P.funcs[g]? with
  | none => rw [hf] at h; simp at h
  | some fn =>
    rw [hf] at h
    simp only [Bool.and_eq_true, bne_iff_ne, ne_eq] at h
    refine ⟨fn, rfl, h.2, ?_⟩
    cases hb : fn.body with
    | none => rw [hb] at h; simp at h
    | some c => rfl
theorem run_callFunc {P : Program} {g : FuncId} (h : fnFine P g = true) (x : Array Value) (w : World) : (callFunc g x).run P w = .ok (.enter g x) w := by
  obtain ⟨fn, hf, hn, hb⟩ := fnFine_spec h
  cases hbb : fn.body with
  | none => rw [hbb] at hb; simp at hb
  | some c =>
    unfold callFunc
    simp [hf, hn, hbb]
theorem aop_wp {call : ACall} (hc : CallOk P call) (hw : WRel ρ h w) (hg : Gl P ρ) (hops : OpsRel ρ o.op a.eval a'.eval) (ha : aop P call o a h = some (e, a1, h1)) (K : Aims P ρ h w o a a' e a1 h1 next Q) : o.wp P a' w next Q := by
  unfold aop at ha
  cases ho : o.op with
  | move x =>
    simp only [ho] at ha
    rw [ho] at hops
    exact done_wp hw (hops x (by simp [Op.operands])) (by simp [execOp, ho]) ha K
  | assign x =>
    simp only [ho] at ha
    rw [ho] at hops
    exact done_wp hw (hops x (by simp [Op.operands])) (by simp [execOp, ho]) ha K
  | pick c x y =>
    simp only [ho] at ha
    rw [ho] at hops
    have hcr := hops c (by simp [Op.operands])
    split at ha
    · rename_i hcv
      rw [hcv] at hcr
      have hc' : a'.eval c = .bool true := by generalize a'.eval c = u at hcr; cases hcr; rfl
      exact done_wp hw (hops x (by simp [Op.operands])) (by simp [execOp, ho, hc', asBool]) ha K
    · rename_i hcv
      rw [hcv] at hcr
      have hc' : a'.eval c = .bool false := by generalize a'.eval c = u at hcr; cases hcr; rfl
      exact done_wp hw (hops y (by simp [Op.operands])) (by simp [execOp, ho, hc', asBool]) ha K
    · simp at ha
  | nilCheck x =>
    simp only [ho] at ha
    rw [ho] at hops
    have hx := hops x (by simp [Op.operands])
    split at ha
    · rename_i p hp
      rw [hp] at hx
      obtain ⟨q, hq, e1⟩ := vrel_ptr hx
      exact done_wp hw (.ptr p q hq) (by simp [execOp, ho, e1]) ha K
    · simp at ha
  | panic x =>
    simp only [ho] at ha
    rw [ho] at hops
    have hx := hops x (by simp [Op.operands])
    split at ha
    · rename_i t v hv
      rw [hv] at hx
      simp only [Option.some.injEq, Prod.mk.injEq] at ha
      obtain ⟨rfl, rfl, rfl⟩ := ha
      generalize hu : a'.eval x = u at hx
      cases hx with
      | iface t v v' h =>
        have hr : (execOp a'.eval o).run P w = .halt (.panic (.iface t v')) w := by simp [execOp, ho, hu, Instr.panic]
        unfold Oper.wp
        rw [hr]
        exact K.kp ρ w [{ v := .iface t v, recovered := false }] [{ v := .iface t v', recovered := false }] hw (Fr.refl _ _ _) ⟨⟨.iface t v v' h, rfl, rfl⟩, trivial⟩ rfl rfl
    · simp at ha
  | typeAssert x xt t ok =>
    simp only [ho] at ha
    rw [ho] at hops
    have hx := hops x (by simp [Op.operands])
    split at ha
    · rename_i t' v hv
      rw [hv] at hx
      split at ha
      · rename_i hc
        rw [Bool.and_eq_true, decide_eq_true_eq] at hc
        obtain ⟨rfl, hp⟩ := hc
        generalize hu : a'.eval x = u at hx
        cases hx with
        | iface _ _ v' h =>
          unfold plainType at hp
          cases hd : P.underlying t' with
          | none => rw [hd] at hp; simp at hp
          | some d =>
            rw [hd] at hp
            cases ok with
            | false => exact done_wp hw h (by cases d <;> first | (simp at hp; done) | simp [execOp, ho, hu, Instr.typeAssert, run_underlying hd]) ha K
            | true =>
              have h2 : VRel ρ (.tuple #[v, .bool true]) (.tuple #[v', .bool true]) := by
                refine .tuple _ _ rfl fun i x y hx hy => ?_
                match i with
                | 0 =>
                  simp at hx hy
                  subst hx hy
                  exact h
                | 1 =>
                  simp at hx hy
                  subst hx hy
                  exact .bool true
                | i + 2 => simp at hx
              exact done_wp hw h2 (by cases d <;> first | (simp at hp; done) | simp [execOp, ho, hu, Instr.typeAssert, run_underlying hd]) ha K
      · simp at ha
    · simp at ha
  | slice t x lo hi mx =>
    simp only [ho] at ha
    split at ha
    · exact gop_wp hw hops (fun cs b => by rw [ho]; exact fun e => by cases e) ha K
    · rw [ho] at hops
      split at ha
      · rename_i r hr
        have hlo : ORelV ρ (lo.map a.eval) (lo.map a'.eval) := oRel_map lo fun y hy => hops y (by simp [Op.operands, hy])
        have hhi : ORelV ρ (hi.map a.eval) (hi.map a'.eval) := oRel_map hi fun y hy => hops y (by simp [Op.operands, hy])
        have hmx : ORelV ρ (mx.map a.eval) (mx.map a'.eval) := oRel_map mx fun y hy => hops y (by simp [Op.operands, hy])
        obtain ⟨r', h2, h3⟩ := aslice_run (P := P) (w := w) (hops x (by simp [Op.operands])) hlo hhi hmx hr
        exact done_wp hw h3 (by simp [execOp, ho, h2]) ha K
      · simp at ha
  | lookup t m ix ok =>
    simp only [ho] at ha
    split at ha
    · rename_i s hs
      exact generic_wp hw hops (by rw [ho]; exact ⟨s, hs⟩) ha K
    · simp at ha
  | mapUpdate t m k x =>
    simp only [ho] at ha
    split at ha
    · rename_i s hs
      exact generic_wp hw hops (by rw [ho]; exact ⟨s, hs⟩) ha K
    · simp at ha
  | insert t m k x =>
    simp only [ho] at ha
    split at ha
    · rename_i s hs
      exact generic_wp hw hops (by rw [ho]; exact ⟨s, hs⟩) ha K
    · simp at ha
  | range t x =>
    simp only [ho] at ha
    split at ha
    · rename_i s hs
      exact generic_wp hw hops (by rw [ho]; exact ⟨s, hs⟩) ha K
    · simp at ha
  | binOp op t x y n =>
    simp only [ho] at ha
    split at ha
    · rename_i b hb
      rw [ho] at hops
      obtain ⟨n1, n2, n3, n4⟩ := nilCmp_equal (P := P) (hops x (by simp [Op.operands])) (hops y (by simp [Op.operands])) hb w
      split at ha
      · exact done_wp hw (.bool _) (by simp [execOp, ho, n2, n3, n1]) ha K
      · exact done_wp hw (.bool _) (by simp [execOp, ho, n2, n4, n1]) ha K
      · simp at ha
    · exact gop_wp hw hops (fun cs b => by rw [ho]; exact fun e => by cases e) ha K
  | unOp op t x =>
    simp only [ho] at ha
    exact gop_wp hw hops (fun cs b => by rw [ho]; exact fun e => by cases e) ha K
  | convert s d x =>
    simp only [ho] at ha
    exact gop_wp hw hops (fun cs b => by rw [ho]; exact fun e => by cases e) ha K
  | call c =>
    simp only [ho] at ha
    split at ha
    · rename_i b hcal
      split at ha
      · split at ha
        · rename_i s x hargs
          split at ha
          · rename_i v h' hap
            simp only [done, Option.some.injEq, Prod.mk.injEq] at ha
            obtain ⟨rfl, rfl, rfl⟩ := ha
            have hcargs : c.args = #[s, x] := Array.toList_inj.1 (by simpa using hargs)
            rw [ho] at hops
            obtain ⟨ρ1, v', w1, r1, w1r, hv, fr⟩ := append_sound (ty := o.type) hw (hops s (by simp [Op.operands, Call.operands, hcargs])) (hops x (by simp [Op.operands, Call.operands, hcargs])) hap
            have hr : (execOp a'.eval o).run P w = .ok (.value v') w1 := by simp [execOp, ho, resolve, hcal, invoke, builtin, hcargs, r1]
            unfold Oper.wp
            rw [hr]
            exact K.kv ρ1 w1 v v' w1r fr hv rfl rfl
          · simp at ha
        · simp at ha
      · exact gop_wp hw hops (fun cs b => by rw [ho]; exact fun e => by cases e) ha K
      · exact gop_wp hw hops (fun cs b => by rw [ho]; exact fun e => by cases e) ha K
      · split at ha
        · rename_i hnv
          refine generic_wp hw hops ?_ ha K
          rw [ho]
          intro _ x hx
          rw [List.all_eq_true] at hnv
          exact hnv x (by simpa using hx)
        · simp at ha
      · rename_i hne1 hne2 hne3 hne4
        refine generic_wp hw hops ?_ ha K
        rw [ho]
        intro hcp
        rw [hcal] at hcp
        injection hcp with hcp
        exact absurd hcp hne4
    · rename_i f hcal
      split at ha
      · rename_i g first cap hf
        split at ha
        · rename_i hfine
          have hfr := hops f (by rw [ho]; simp [Op.operands, Call.operands, hcal])
          rw [hf] at hfr
          generalize hu : a'.eval f = u at hfr
          cases hfr with
          | func fn x y x' y' hx hy k1 k2 =>
            have hargs := map_rel c.args fun z hz => hops z (by rw [ho]; simp [Op.operands, Call.operands, hcal, hz])
            have hall : AsRel ρ ((first ++ c.args.map a.eval) ++ cap) ((x' ++ c.args.map a'.eval) ++ y') := AsRel.append (AsRel.append ⟨hx, k1⟩ hargs) ⟨hy, k2⟩
            have hr : (execOp a'.eval o).run P w = .ok (.enter g ((x' ++ c.args.map a'.eval) ++ y')) w := by
              simp [execOp, ho, resolve, hcal, hu, Deferred.ofValue, invoke, run_callFunc hfine]
            unfold Oper.wp
            rw [hr]
            split at ha
            · rename_i v h' hcl
              simp only [done, Option.some.injEq, Prod.mk.injEq] at ha
              obtain ⟨rfl, rfl, rfl⟩ := ha
              refine Calls.mono (hc g _ _ h w ρ _ _ hw hg hall hcl) fun e' w' ⟨ρ1, k3, k4, k5⟩ => ?_
              cases k5 with
              | returned v v' hv => exact K.kv ρ1 w' v v' k3 k4 hv rfl rfl
            · rename_i ch h' hcl
              simp only [Option.some.injEq, Prod.mk.injEq] at ha
              obtain ⟨rfl, rfl, rfl⟩ := ha
              refine Calls.mono (hc g _ _ h w ρ _ _ hw hg hall hcl) fun e' w' ⟨ρ1, k3, k4, k5⟩ => ?_
              cases k5 with
              | panicked _ ch' hcc => exact K.kp ρ1 w' ch ch' k3 k4 hcc rfl rfl
            · simp at ha
        · simp at ha
      · simp at ha
    · simp at ha
  | _ =>
    simp only [ho] at ha
    exact generic_wp hw hops (by rw [ho]; trivial) ha K
end
end Go.Proofs.YtiffnkmbmenhfaaDoor.Run
/-! Regions in the text's order. -/
namespace Go.Proofs.YtiffnkmbmenhfaaDoor.Run
open Go Go.RowKit
set_option linter.unusedVariables false
set_option linter.unusedSimpArgs false

inductive XRel (ρ : Ren) : Exit → Exit → Prop
  | normal : XRel ρ .normal .normal
  | exit (i : Nat) : XRel ρ (.exit i) (.exit i)
  | ret : XRel ρ .ret .ret
  | panic (c c' : List PanicEntry) (h : ChRel ρ c c') : XRel ρ (.panic c) (.panic c')
/-- What is asked where some code ends. -/
def Post (ρ : Ren) (h : AH) (w : World) (n : Nat) (e : Exit) (a1 : Env) (h1 : AH) (Q : Exit → Act → World → Prop) : Prop :=
  ∀ ρ1 e' a1' w1, WRel ρ1 h1 w1 → Fr ρ h w ρ1 h1 w1 → EnvRel ρ1 n a1 a1' → XRel ρ1 e e' → Q e' a1' w1
theorem Post.after {ρ ρ1 : Ren} {h h1 h2 : AH} {w w1 : World} {n : Nat} {e : Exit} {a2 : Env} {Q : Exit → Act → World → Prop} (fr : Fr ρ h w ρ1 h1 w1) (K : Post ρ h w n e a2 h2 Q) : Post ρ1 h1 w1 n e a2 h2 Q :=
  fun ρ2 e' a' w2 k1 k2 k3 k4 => K ρ2 e' a' w2 k1 (fr.trans k2) k3 k4
theorem vrel_bool {ρ : Ren} {b : Bool} {v : Value} (h : VRel ρ (.bool b) v) : v = .bool b := by cases h; rfl
/-- Whether an operation is wanted. -/
theorem wanted_rel {ρ : Ren} {ops : Array Oper} {o : Oper} {a : Env} {a' : Act} (h : ∀ j b d, o.guard = some (j, b) → (ops[j]?).bind (·.dst) = some d → VRel ρ (a.eval (.tmp d)) (a'.tmps.getD d undef)) :
    Region.wanted o (yielded ops a'.tmps) = wantedE o ops a := by
  unfold Region.wanted wantedE
  cases hg : o.guard with
  | none => rfl
  | some p =>
    obtain ⟨j, want⟩ := p
    dsimp only
    have key : yielded ops a'.tmps j = a.yielded ops j := by
      unfold yielded Env.yielded
      cases hd : (ops[j]?).bind (·.dst) with
      | none => simp
      | some d =>
        have hv := h j want d hg hd
        simp only [Env.eval] at hv
        simp only [Option.bind_some]
        cases ht : a.t.get d with
        | none =>
          rw [ht] at hv
          simp only at hv ⊢
          cases hx : a'.tmps[d]? with
          | none => rfl
          | some u =>
            have : a'.tmps.getD d undef = u := by rw [Array.getD_eq_getD_getElem?, hx]; rfl
            rw [this] at hv
            cases u <;> first | rfl | (cases hv)
        | some v =>
          rw [ht] at hv
          simp only at hv ⊢
          cases hx : a'.tmps[d]? with
          | none =>
            have : a'.tmps.getD d undef = undef := by rw [Array.getD_eq_getD_getElem?, hx]; rfl
            rw [this] at hv
            cases v <;> first | rfl | (cases hv)
          | some u =>
            have : a'.tmps.getD d undef = u := by rw [Array.getD_eq_getD_getElem?, hx]; rfl
            rw [this] at hv
            cases hv <;> rfl
    rw [key]
    cases a.yielded ops j with
    | none => simp
    | some b => cases b <;> cases want <;> rfl
theorem EnvRel.wanted {ρ : Ren} {n : Nat} {ops : Array Oper} {o : Oper} {a : Env} {a' : Act} (h : EnvRel ρ n a a') : Region.wanted o (yielded ops a'.tmps) = wantedE o ops a := wanted_rel fun _ _ d _ _ => h.tmp d
theorem operOk_spec {P : Program} {n : Nat} {o : Oper} (h : operOk P n o = true) : (∀ x ∈ o.op.operands, operandOk P x = true) ∧ ∀ d, o.dst = some d → d < n := by
  unfold operOk at h
  rw [Bool.and_eq_true, List.all_eq_true] at h
  refine ⟨fun x hx => h.1 x (by simpa using hx), fun d hd => ?_⟩
  have := h.2
  rw [hd] at this
  simpa using this
theorem EnvRel.ops {P : Program} {ρ : Ren} {n : Nat} {o : Oper} {a : Env} {a' : Act} (h : EnvRel ρ n a a') (hg : Gl P ρ) (ho : operOk P n o = true) : OpsRel ρ o.op a.eval a'.eval :=
  fun x hx => h.eval hg ((operOk_spec ho).1 x hx)
theorem EnvRel.defer {ρ : Ren} {n : Nat} {a : Env} {a' : Act} (h : EnvRel ρ n a a') {d d' : Deferred} (hd : DRel ρ d d') : EnvRel ρ n ⟨a.t, d :: a.defers⟩ { a' with defers := d' :: a'.defers } := by
  refine ⟨h.size, fun t => ?_, by simp [h.len], fun i x y hx hy => ?_⟩
  · have := h.tmp t
    cases a
    exact this
  · cases i with
    | zero =>
      simp only [List.getElem?_cons_zero, Option.some.injEq] at hx hy
      subst hx hy
      exact hd
    | succ i => exact h.defers i x y (by simpa using hx) (by simpa using hy)
theorem aops_wp {P : Program} {call : ACall} (hc : CallOk P call) {n : Nat} (hn : n < 1000000) {ops : Array Oper} {Q : Exit → Act → World → Prop} : ∀ (l : List Oper), (∀ o ∈ l, operOk P n o = true) →
    ∀ (ρ : Ren) (a : Env) (a' : Act) (h : AH) (w : World) (e : Exit) (a1 : Env) (h1 : AH), WRel ρ h w → Gl P ρ → EnvRel ρ n a a' → aops P call ops l a h = some (e, a1, h1) → Post ρ h w n e a1 h1 Q → wpList P ops Q l a' w := by
  intro l
  induction l with
  | nil =>
    intro _ ρ a a' h w e a1 h1 hw hg he ha K
    simp only [aops, Option.some.injEq, Prod.mk.injEq] at ha
    obtain ⟨rfl, rfl, rfl⟩ := ha
    exact K ρ .normal a' w hw (Fr.refl _ _ _) he .normal
  | cons o rest ih =>
    intro hl ρ a a' h w e a1 h1 hw hg he ha K
    have ho := hl o (List.mem_cons_self ..)
    have hrest : ∀ o ∈ rest, operOk P n o = true := fun x hx => hl x (List.mem_cons_of_mem _ hx)
    have hdst := (operOk_spec ho).2
    simp only [wpList]
    rw [he.wanted]
    simp only [aops] at ha
    cases hwt : wantedE o ops a with
    | false =>
      rw [hwt] at ha
      simp only at ha
      rw [if_neg (by simp)]
      exact ih hrest ρ _ _ h w e a1 h1 hw hg (he.put (undef_rel ρ) hdst hn) ha K
    | true =>
      rw [hwt] at ha
      simp only at ha
      rw [if_pos rfl]
      left
      cases hx : aop P call o a h with
      | none => rw [hx] at ha; simp at ha
      | some r =>
        obtain ⟨e2, a2, h2⟩ := r
        rw [hx] at ha
        refine aop_wp hc hw hg (he.ops hg ho) hx ⟨?_, ?_, ?_⟩
        · intro ρ1 w1 v v' k1 k2 k3 e1 e3
          subst e1 e3
          simp only at ha
          exact ih hrest ρ1 _ _ h2 w1 e a1 h1 k1 (hg.mono k2.le) ((he.mono k2.le).put k3 hdst hn) ha (K.after k2)
        · intro ρ1 w1 d d' k1 k2 k3 e1 e3
          subst e1 e3
          simp only at ha
          exact ih hrest ρ1 _ _ h2 w1 e a1 h1 k1 (hg.mono k2.le) (((he.mono k2.le).defer k3).put (undef_rel ρ1) hdst hn) ha (K.after k2)
        · intro ρ1 w1 ch ch' k1 k2 k3 e1 e3
          subst e1 e3
          simp only [Option.some.injEq, Prod.mk.injEq] at ha
          obtain ⟨rfl, rfl, rfl⟩ := ha
          exact K ρ1 _ a' w1 k1 k2 (he.mono k2.le) (.panic ch ch' k3)
end Go.Proofs.YtiffnkmbmenhfaaDoor.Run
/-! Operations that make a row: it may be made later than in the order of the run over rows. -/
namespace Go.Proofs.YtiffnkmbmenhfaaDoor.Run
open Go Go.RowKit
set_option linter.unusedVariables false
set_option linter.unusedSimpArgs false

def MakesV (P : Program) (ρ : Ren) (s s' : Sem Value) : Prop := ∀ h x h', arun P s h = some (x, h') → h.next < AH.lim ∧ ∃ (cs cs' : Array Value) (t : TypeId) (f : Addr → Value),
  h' = h.push (.rw cs.toList) ∧ x = f ⟨h.next, 0, none⟩ ∧ AsRel ρ cs cs' ∧ (∀ w, s'.run P w = .ok (f ⟨w.heap.size, 0, none⟩) (w.alloc (.cells cs' t))) ∧ (f = (fun a => .pointer (some a)) ∨ ∃ len, f = fun a => .slice (some a) len len)
section
variable {P : Program} {ρ : Ren}
theorem MakesV.quiet {α : Type} {q : Sem α} {f f' : α → Sem Value} (hq : Quiet P q) (hf : ∀ a, (∃ h h', arun P q h = some (a, h')) → MakesV P ρ (f a) (f' a)) : MakesV P ρ (q >>= f) (q >>= f') := by
  intro h x h' ha
  have ha' : arun P (q.bind f) h = some (x, h') := ha
  rw [arun_bind] at ha'
  split at ha'
  · rename_i a h1 hx
    obtain ⟨rfl, hr⟩ := hq h a h1 hx
    obtain ⟨k0, cs, cs', t, g, k1, k2, k3, k4, k5⟩ := hf a ⟨_, _, hx⟩ _ x h' ha'
    exact ⟨k0, cs, cs', t, g, k1, k2, k3, fun w => by rw [Sem.run_bind, hr w]; exact k4 w, k5⟩
  · simp at ha'
theorem MakesV.halt {e : Halt} {s' : Sem Value} : MakesV P ρ (Sem.halt e) s' := fun h x h' ha => by simp [arun] at ha
theorem MakesV.ite {c : Prop} [Decidable c] {a b a' b' : Sem Value} (h : c → MakesV P ρ a a') (k : ¬ c → MakesV P ρ b b') : MakesV P ρ (if c then a else b) (if c then a' else b') := by
  by_cases hc : c
  · rw [if_pos hc, if_pos hc]; exact h hc
  · rw [if_neg hc, if_neg hc]; exact k hc
theorem MakesV.row (t : TypeId) {cs cs' : Array Value} (hcs : AsRel ρ cs cs') (f : Addr → Value) (hf : f = (fun a => .pointer (some a)) ∨ ∃ len, f = fun a => .slice (some a) len len) :
    MakesV P ρ (newRow t cs >>= fun a => Pure.pure (f a)) (newRow t cs' >>= fun a => Pure.pure (f a)) := by
  intro h x h' ha
  have ha' : arun P (Sem.new (.cells cs t) fun r => .pure (f ⟨r, 0, none⟩)) h = some (x, h') := ha
  simp only [arun] at ha'
  split at ha'
  · rename_i hl
    simp only [Option.some.injEq, Prod.mk.injEq] at ha'
    obtain ⟨rfl, rfl⟩ := ha'
    exact ⟨hl, cs, cs', t, f, rfl, rfl, hcs, fun w => rfl, hf⟩
  · simp at ha'
theorem Quiet.underlying (t : TypeId) : Quiet P (underlying t) := by
  refine Quiet.bind Quiet.program fun p => ?_
  cases p.underlying t with
  | none => exact Quiet.halt _
  | some d => exact Quiet.pure _
theorem Quiet.zeroValue (t : TypeId) : Quiet P (zeroValue t) := by
  refine Quiet.bind (Quiet.typeInfo t) fun i => ?_
  cases i.zero with
  | none => exact Quiet.halt _
  | some d => exact Quiet.pure _
theorem arun_underlying {t : TypeId} {h h' : AH} {d : TypeDesc} (ha : arun P (underlying t) h = some (d, h')) : P.underlying t = some d := by
  cases hu : P.underlying t with
  | none => simp [underlying, Bind.bind, program, Sem.bind, arun, hu, stuck] at ha
  | some d' =>
    simp [underlying, Bind.bind, program, Sem.bind, arun, hu, Pure.pure] at ha
    rw [ha.1]
theorem zeroValue_rel {t : TypeId} (hz : zeroOk P t = true) {h h' : AH} {z : Value} (ha : arun P (zeroValue t) h = some (z, h')) : VRel ρ z z := by
  unfold zeroOk at hz
  cases hi : P.info? t with
  | none => rw [hi] at hz; simp at hz
  | some i =>
    rw [hi] at hz
    simp only at hz
    cases hzz : i.zero with
    | none => rw [hzz] at hz; simp at hz
    | some z' =>
      rw [hzz] at hz
      simp [zeroValue, typeInfo, Bind.bind, program, Sem.bind, arun, hi, hzz, Pure.pure] at ha
      rw [← ha.1]
      exact ground_rel ρ 8 z' hz
theorem MakesV.alloc {t : TypeId} (hz : zeroOk P t = true) : MakesV P ρ (Instr.alloc t true (.tuple #[])) (Instr.alloc t true (.tuple #[])) :=
  MakesV.quiet (Quiet.zeroValue t) fun z ⟨h, h', ha⟩ => MakesV.row t (zeroValue_rel hz ha).cells _ (.inl rfl)
theorem MakesV.box (t : TypeId) {v v' : Value} (h : VRel ρ v v') : MakesV P ρ (Instr.box t v) (Instr.box t v') := MakesV.row t h.cells _ (.inl rfl)
theorem MakesV.buildSlice {t : TypeId} (hz : elemZeroOk P t = true) (len : Nat) {x x' : Array (Nat × Value)} (h : PartsRel ρ x.toList x'.toList) : MakesV P ρ (Instr.buildSlice t len x) (Instr.buildSlice t len x') := by
  refine MakesV.quiet (Quiet.underlying t) fun d ⟨hh, hh', hd⟩ => ?_
  have hu := arun_underlying hd
  unfold elemZeroOk at hz
  rw [hu] at hz
  cases d with
  | slice elem =>
    dsimp only at hz ⊢
    refine MakesV.quiet (Quiet.sizeOf elem) fun n _ => ?_
    refine MakesV.ite (fun hc => MakesV.halt) (fun hc => ?_)
    have tail : ∀ (z : Array Value), AsRel ρ z z →
        MakesV P ρ (match Instr.fill (fun i => some (i * n, n)) ((Array.range (len * n)).map fun i => z[i % z.size]!) x.toList with
          | some cells => do Pure.pure (Value.slice (some (← Go.newRow elem cells)) len len)
          | _ => stuck "buildSlice: a part of the wrong size") (match Instr.fill (fun i => some (i * n, n)) ((Array.range (len * n)).map fun i => z[i % z.size]!) x'.toList with
          | some cells => do Pure.pure (Value.slice (some (← Go.newRow elem cells)) len len)
          | _ => stuck "buildSlice: a part of the wrong size") := by
      intro z hzz
      cases hf : Instr.fill (fun i => some (i * n, n)) ((Array.range (len * n)).map fun i => z[i % z.size]!) x.toList with
      | none => exact MakesV.halt
      | some y =>
        obtain ⟨y', h3, h4⟩ := fill_rel _ _ _ h _ _ (hzz.zeros _ _) y hf
        rw [h3]
        exact MakesV.row elem h4 _ (.inr ⟨len, rfl⟩)
    by_cases h0 : len * n = 0
    · simp only [if_pos h0]
      exact tail #[] (AsRel.nil _)
    · simp only [if_neg h0]
      exact MakesV.quiet (Quiet.zeroValue elem) fun z ⟨_, _, ha⟩ => tail z.cells (zeroValue_rel hz ha).cells
  | _ => exact MakesV.halt
/-- What such an operation leads to, over rows and over blocks. -/
theorem maker_run {call : ACall} {o : Oper} {a a1 : Env} {a' : Act} {h h1 : AH} (hm : makes o.op = true) (hops : OpsRel ρ o.op a.eval a'.eval) (ha : aop P call o a h = some (.normal, a1, h1)) :
    h.next < AH.lim ∧ ∃ (cs cs' : Array Value) (t : TypeId) (f : Addr → Value), h1 = h.push (.rw cs.toList) ∧ a1 = a.put o.dst (f ⟨h.next, 0, none⟩) ∧ AsRel ρ cs cs' ∧
      (∀ w, (execOp a'.eval o).run P w = .ok (.value (f ⟨w.heap.size, 0, none⟩)) (w.alloc (.cells cs' t))) ∧ (f = (fun a => .pointer (some a)) ∨ ∃ len, f = fun a => .slice (some a) len len) := by
  have key : ∀ (s s' : Sem Value), execOp a.eval o = (do Pure.pure (Next.value (← s))) → execOp a'.eval o = (do Pure.pure (Next.value (← s'))) → heapOp o.op = true → MakesV P ρ s s' → generic P o a h = some (.normal, a1, h1) →
      h.next < AH.lim ∧ ∃ (cs cs' : Array Value) (t : TypeId) (f : Addr → Value), h1 = h.push (.rw cs.toList) ∧ a1 = a.put o.dst (f ⟨h.next, 0, none⟩) ∧ AsRel ρ cs cs' ∧
        (∀ w, (execOp a'.eval o).run P w = .ok (.value (f ⟨w.heap.size, 0, none⟩)) (w.alloc (.cells cs' t))) ∧ (f = (fun a => .pointer (some a)) ∨ ∃ len, f = fun a => .slice (some a) len len) := by
    intro s s' e1 e2 hh hmk hg
    unfold generic at hg
    rw [hh, e1] at hg
    split at hg
    · dsimp only at hg
      have hb : arun P (do Pure.pure (Next.value (← s))) h = match arun P s h with
          | some (v, h') => some (Next.value v, h')
          | none => none := by
        show arun P (s.bind fun v => .pure (Next.value v)) h = _
        rw [arun_bind]
        cases arun P s h with
        | none => rfl
        | some p => rfl
      rw [hb] at hg
      cases hs : arun P s h with
      | none => rw [hs] at hg; simp at hg
      | some p =>
        obtain ⟨v, h'⟩ := p
        rw [hs] at hg
        simp only [Option.some.injEq, Prod.mk.injEq, true_and] at hg
        obtain ⟨rfl, rfl⟩ := hg
        obtain ⟨k0, cs, cs', t, f, k1, k2, k3, k4, k5⟩ := hmk h v h' hs
        exact ⟨k0, cs, cs', t, f, k1, by rw [k2], k3, fun w => by rw [e2]; simp [k4 w], k5⟩
    · simp at hg
  have hokg : ∀ {x : AOut}, x = some (.normal, a1, h1) → x = generic P o a h → opOk P o.op = true := by
    intro x e1 e2
    rw [e2] at e1
    unfold generic at e1
    cases hok : opOk P o.op with
    | true => rfl
    | false => rw [hok] at e1; simp at e1
  unfold aop at ha
  cases ho : o.op with
  | alloc t =>
    simp only [ho] at ha
    have hok := hokg ha rfl
    rw [ho] at hok hops
    exact key _ _ (by simp only [execOp, ho]) (by simp only [execOp, ho]) (by rw [ho]; rfl) (MakesV.alloc hok) ha
  | box t x =>
    simp only [ho] at ha
    rw [ho] at hops
    exact key _ _ (by simp only [execOp, ho]) (by simp only [execOp, ho]) (by rw [ho]; rfl) (MakesV.box t (hops x (by simp [Op.operands]))) ha
  | buildSlice t len parts =>
    simp only [ho] at ha
    have hok := hokg ha rfl
    rw [ho] at hok hops
    exact key _ _ (by simp only [execOp, ho]) (by simp only [execOp, ho]) (by rw [ho]; rfl) (MakesV.buildSlice hok len (parts_rel parts hops)) ha
  | _ => rw [ho] at hm; simp [makes] at hm
end
end Go.Proofs.YtiffnkmbmenhfaaDoor.Run
/-! Operations in an order that is left open: readers; what an operation does to slots; makers of rows, over rows alone. -/
namespace Go.Proofs.YtiffnkmbmenhfaaDoor.Run
open Go Go.RowKit
set_option linter.unusedVariables false
set_option linter.unusedSimpArgs false

def Sub (h h2 : AH) : Prop := ∀ k r, h.get k = some r → h2.get k = some r
theorem Sub.refl (h : AH) : Sub h h := fun _ _ e => e
theorem Sub.trans {a b c : AH} (h : Sub a b) (k : Sub b c) : Sub a c := fun x r e => k x r (h x r e)
theorem Sub.cell {h h2 : AH} (hs : Sub h h2) {a : Addr} {v : Value} (hv : h.cell a = some v) : h2.cell a = some v := by
  unfold AH.cell at hv ⊢
  cases hg : h.get a.block with
  | none => rw [hg] at hv; simp at hv
  | some r => rw [hs _ _ hg]; rw [hg] at hv; exact hv
theorem brun_mono {α : Type} (P : Program) (s : Sem α) : ∀ (h h2 : AH) (a : α), Sub h h2 → brun P s h = some a → brun P s h2 = some a := by
  induction s with
  | pure x => intro h h2 a _ e; exact e
  | load m x k ih =>
    intro h h2 a hs e
    simp only [brun] at e ⊢
    cases hc : h.cell x with
    | none => rw [hc] at e; simp at e
    | some v =>
      rw [hc] at e
      rw [hs.cell hc]
      exact ih _ _ _ _ hs e
  | getObj r k ih =>
    intro h h2 a hs e
    simp only [brun] at e ⊢
    cases hc : h.get r with
    | none => rw [hc] at e; simp at e
    | some v =>
      rw [hc] at e
      rw [hs _ _ hc]
      cases v with
      | obj o => exact ih _ _ _ _ hs e
      | _ => simp at e
  | program k ih => intro h h2 a hs e; exact ih _ _ _ _ hs e
  | mark m k ih => intro h h2 a hs e; exact ih _ _ _ hs e
  | _ => intro h h2 a hs e; simp [brun] at e
section
variable {P : Program} {call : ACall} {o : Oper} {a a1 : Env} {h h1 : AH} {e : Exit}
/-- A reader: it finds the same wherever all that was there is there. -/
theorem aop_reader (hh : heapOp o.op = false) (ha : aop P call o a h = some (e, a1, h1)) : h1 = h ∧ ∀ h2, Sub h h2 → aop P call o a h2 = some (e, a1, h2) := by
  have dn : ∀ v, done o a h v = some (e, a1, h1) → h1 = h ∧ ∀ h2, Sub h h2 → done o a h2 v = some (e, a1, h2) := by
    intro v hd
    simp only [done, Option.some.injEq, Prod.mk.injEq] at hd
    obtain ⟨rfl, rfl, rfl⟩ := hd
    exact ⟨rfl, fun h2 _ => rfl⟩
  have gp : gop P o a h = some (e, a1, h1) → h1 = h ∧ ∀ h2, Sub h h2 → gop P o a h2 = some (e, a1, h2) := by
    intro hd
    unfold gop at hd ⊢
    cases hall : o.op.operands.toList.all fun x => ground 8 (a.eval x) with
    | false => rw [hall] at hd; simp at hd
    | true =>
      rw [hall] at hd
      simp only at hd ⊢
      cases hp : prun P (execOp a.eval o) with
      | none => rw [hp] at hd; simp at hd
      | some x =>
        rw [hp] at hd
        cases x with
        | value v =>
          simp only at hd ⊢
          cases hg : ground 8 v with
          | false => rw [hg] at hd; simp at hd
          | true =>
            rw [hg] at hd
            exact dn v hd
        | _ => simp at hd
  have gen : generic P o a h = some (e, a1, h1) → h1 = h ∧ ∀ h2, Sub h h2 → generic P o a h2 = some (e, a1, h2) := by
    intro hd
    unfold generic at hd ⊢
    rw [hh] at hd ⊢
    cases hok : opOk P o.op with
    | false => rw [hok] at hd; simp at hd
    | true =>
      rw [hok] at hd
      simp only at hd ⊢
      cases hb : brun P (execOp a.eval o) h with
      | none => rw [hb] at hd; simp at hd
      | some x =>
        rw [hb] at hd
        cases x with
        | value v =>
          simp only [Option.some.injEq, Prod.mk.injEq] at hd
          obtain ⟨rfl, rfl, rfl⟩ := hd
          refine ⟨rfl, fun h2 hs => ?_⟩
          rw [brun_mono P _ _ _ _ hs hb]
        | _ => simp at hd
  unfold aop at ha ⊢
  cases ho : o.op with
  | move x => simp only [ho] at ha ⊢; exact dn _ ha
  | assign x => simp only [ho] at ha ⊢; exact dn _ ha
  | pick c x y =>
    simp only [ho] at ha ⊢
    split at ha
    · exact dn _ ha
    · exact dn _ ha
    · simp at ha
  | nilCheck x =>
    simp only [ho] at ha ⊢
    split at ha
    · exact dn _ ha
    · simp at ha
  | slice t x lo hi mx =>
    simp only [ho] at ha ⊢
    split at ha
    · exact gp ha
    · split at ha
      · rename_i r hr
        exact dn _ ha
      · simp at ha
  | lookup t m ix ok =>
    simp only [ho] at ha ⊢
    split at ha
    · exact gen ha
    · simp at ha
  | binOp op t x y n =>
    simp only [ho] at ha ⊢
    split at ha
    · split at ha
      · exact dn _ ha
      · exact dn _ ha
      · simp at ha
    · exact gp ha
  | unOp op t x => simp only [ho] at ha ⊢; exact gp ha
  | convert s d x => simp only [ho] at ha ⊢; exact gp ha
  | call c =>
    rw [ho] at hh
    simp only [ho] at ha ⊢
    split at ha
    · rename_i b hcal
      simp only [heapOp, hcal] at hh
      cases b with
      | len => exact gen ha
      | max => exact gp ha
      | min => exact gp ha
      | _ => simp at hh
    · rename_i f hcal
      simp [heapOp, hcal] at hh
    · simp at ha
  | build _ _ => simp only [ho] at ha ⊢; exact gen ha
  | load _ _ => simp only [ho] at ha ⊢; exact gen ha
  | makeInterface _ _ => simp only [ho] at ha ⊢; exact gen ha
  | makeFunc _ _ _ => simp only [ho] at ha ⊢; exact gen ha
  | fieldAddr _ _ _ => simp only [ho] at ha ⊢; exact gen ha
  | field _ _ _ => simp only [ho] at ha ⊢; exact gen ha
  | indexAddr _ _ _ => simp only [ho] at ha ⊢; exact gen ha
  | index _ _ _ => simp only [ho] at ha ⊢; exact gen ha
  | extract _ _ => simp only [ho] at ha ⊢; exact gen ha
  | _ => rw [ho] at hh; simp [heapOp] at hh
/-- What an operation does to slots and deferred calls. -/
theorem aop_shape (ha : aop P call o a h = some (.normal, a1, h1)) : (∃ v, a1 = a.put o.dst v) ∨ (heapOp o.op = true ∧ ∃ d, a1 = Env.put ⟨a.t, d :: a.defers⟩ o.dst undef) := by
  have dn : ∀ v (h : AH), done o a h v = some (.normal, a1, h1) → (∃ v, a1 = a.put o.dst v) ∨ (heapOp o.op = true ∧ ∃ d, a1 = Env.put ⟨a.t, d :: a.defers⟩ o.dst undef) := by
    intro v h hd
    simp only [done, Option.some.injEq, Prod.mk.injEq] at hd
    exact .inl ⟨v, hd.2.1.symm⟩
  have gp : gop P o a h = some (.normal, a1, h1) → (∃ v, a1 = a.put o.dst v) ∨ (heapOp o.op = true ∧ ∃ d, a1 = Env.put ⟨a.t, d :: a.defers⟩ o.dst undef) := by
    intro hd
    unfold gop at hd
    split at hd
    · split at hd
      · split at hd
        · exact dn _ _ hd
        · simp at hd
      · simp at hd
    · simp at hd
  have gen : generic P o a h = some (.normal, a1, h1) → (∃ v, a1 = a.put o.dst v) ∨ (heapOp o.op = true ∧ ∃ d, a1 = Env.put ⟨a.t, d :: a.defers⟩ o.dst undef) := by
    intro hd
    unfold generic at hd
    split at hd
    · split at hd
      · rename_i hh
        split at hd
        · simp only [Option.some.injEq, Prod.mk.injEq] at hd
          exact .inl ⟨_, hd.2.1.symm⟩
        · simp only [Option.some.injEq, Prod.mk.injEq] at hd
          exact .inl ⟨_, hd.2.1.symm⟩
        · simp only [Option.some.injEq, Prod.mk.injEq] at hd
          exact .inr ⟨hh, _, hd.2.1.symm⟩
        · simp at hd
      · split at hd
        · simp only [Option.some.injEq, Prod.mk.injEq] at hd
          exact .inl ⟨_, hd.2.1.symm⟩
        · simp at hd
    · simp at hd
  unfold aop at ha
  split at ha
  all_goals (repeat' (first | exact dn _ _ ha | exact gen ha | exact gp ha | (cases ha; done) | (split at ha)))
/-! Makers, over rows alone. -/
def PushV (P : Program) (s : Sem Value) : Prop := ∀ h x h', arun P s h = some (x, h') → h.next < AH.lim ∧ ∃ cs, h' = h.push (.rw cs)
theorem PushV.quiet {α : Type} {q : Sem α} {f : α → Sem Value} (hq : Quiet P q) (hf : ∀ a, PushV P (f a)) : PushV P (q >>= f) := by
  intro h x h' ha
  have ha' : arun P (q.bind f) h = some (x, h') := ha
  rw [arun_bind] at ha'
  split at ha'
  · rename_i a h1 hx
    obtain ⟨rfl, hr⟩ := hq h a h1 hx
    exact hf a _ x h' ha'
  · simp at ha'
theorem PushV.halt {e : Halt} : PushV P (Sem.halt e) := fun h x h' ha => by simp [arun] at ha
theorem PushV.ite {c : Prop} [Decidable c] {a b : Sem Value} (h : PushV P a) (k : PushV P b) : PushV P (if c then a else b) := by
  by_cases hc : c
  · rw [if_pos hc]; exact h
  · rw [if_neg hc]; exact k
theorem PushV.row (t : TypeId) (cs : Array Value) (f : Addr → Value) : PushV P (newRow t cs >>= fun a => Pure.pure (f a)) := by
  intro h x h' ha
  have ha' : arun P (Sem.new (.cells cs t) fun r => .pure (f ⟨r, 0, none⟩)) h = some (x, h') := ha
  simp only [arun] at ha'
  split at ha'
  · rename_i hl
    simp only [Option.some.injEq, Prod.mk.injEq] at ha'
    obtain ⟨rfl, rfl⟩ := ha'
    exact ⟨hl, _, rfl⟩
  · simp at ha'
theorem PushV.alloc (t : TypeId) : PushV P (Instr.alloc t true (.tuple #[])) := PushV.quiet (Quiet.zeroValue t) fun z => PushV.row t _ _
theorem PushV.box (t : TypeId) (v : Value) : PushV P (Instr.box t v) := PushV.row t _ _
theorem PushV.buildSlice (t : TypeId) (len : Nat) (x : Array (Nat × Value)) : PushV P (Instr.buildSlice t len x) := by
  refine PushV.quiet (Quiet.underlying t) fun d => ?_
  cases d with
  | slice elem =>
    dsimp only
    refine PushV.quiet (Quiet.sizeOf elem) fun n => ?_
    refine PushV.ite PushV.halt ?_
    have tail : ∀ (z : Array Value), PushV P (match Instr.fill (fun i => some (i * n, n)) ((Array.range (len * n)).map fun i => z[i % z.size]!) x.toList with
        | some cells => do Pure.pure (Value.slice (some (← Go.newRow elem cells)) len len)
        | _ => stuck "buildSlice: a part of the wrong size") := by
      intro z
      split
      · exact PushV.row elem _ _
      · exact PushV.halt
    by_cases h0 : len * n = 0
    · simp only [if_pos h0]
      exact tail #[]
    · simp only [if_neg h0]
      exact PushV.quiet (Quiet.zeroValue elem) fun z => tail z.cells
  | _ => exact PushV.halt
theorem maker_push (hm : makes o.op = true) (ha : aop P call o a h = some (.normal, a1, h1)) : (h.next < AH.lim ∧ ∃ cs, h1 = h.push (.rw cs)) ∧ ∃ v, a1 = a.put o.dst v := by
  have key : ∀ (s : Sem Value), execOp a.eval o = (do Pure.pure (Next.value (← s))) → heapOp o.op = true → PushV P s → generic P o a h = some (.normal, a1, h1) → (h.next < AH.lim ∧ ∃ cs, h1 = h.push (.rw cs)) ∧ ∃ v, a1 = a.put o.dst v := by
    intro s e1 hh hmk hg
    unfold generic at hg
    rw [hh, e1] at hg
    split at hg
    · dsimp only at hg
      have hb : arun P (do Pure.pure (Next.value (← s))) h = match arun P s h with
          | some (v, h') => some (Next.value v, h')
          | none => none := by
        show arun P (s.bind fun v => .pure (Next.value v)) h = _
        rw [arun_bind]
        cases arun P s h with
        | none => rfl
        | some p => rfl
      rw [hb] at hg
      cases hs : arun P s h with
      | none => rw [hs] at hg; simp at hg
      | some p =>
        obtain ⟨v, h'⟩ := p
        rw [hs] at hg
        simp only [Option.some.injEq, Prod.mk.injEq, true_and] at hg
        obtain ⟨e1, rfl⟩ := hg
        exact ⟨hmk h v _ hs, v, e1.symm⟩
    · simp at hg
  unfold aop at ha
  cases ho : o.op with
  | alloc t => simp only [ho] at ha; exact key (Instr.alloc t true (.tuple #[])) (by simp only [execOp, ho]) (by rw [ho]; rfl) (PushV.alloc t) ha
  | box t x => simp only [ho] at ha; exact key (Instr.box t (a.eval x)) (by simp only [execOp, ho]) (by rw [ho]; rfl) (PushV.box t _) ha
  | buildSlice t len parts => simp only [ho] at ha; exact key (Instr.buildSlice t len (parts.map fun (i, x) => (i, a.eval x))) (by simp only [execOp, ho]) (by rw [ho]; rfl) (PushV.buildSlice t len _) ha
  | _ => rw [ho] at hm; simp [makes] at hm
end
end Go.Proofs.YtiffnkmbmenhfaaDoor.Run
