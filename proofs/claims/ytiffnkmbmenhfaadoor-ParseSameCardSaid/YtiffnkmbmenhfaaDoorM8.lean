import Derived.Test.YtiffnkmbmenhfaaDoorM7
import Derived.OpenShut
import Derived.LaidMore
import Derived.MakeChecks
/-! The same, quicker: further operations, code, calls. -/
namespace Go.Proofs.YtiffnkmbmenhfaaDoor.Run
open Go Go.RowKit
set_option linter.unusedVariables false
set_option linter.unusedSimpArgs false
noncomputable section

section
variable {P : Program} {call : ACall} {o : Oper} {a : Env} {h : AH}
def nthF (l : List UInt8) : Nat → Option UInt8 := List.rec (motive := fun _ => Nat → Option UInt8) (fun _ => none) (fun b _ ih n => Nat.rec (motive := fun _ => Option UInt8) (some b) (fun m _ => ih m) n) l
theorem nthF_eq : ∀ (l : List UInt8) (n : Nat), nthF l n = l[n]? := by
  intro l
  induction l with
  | nil => intro n; rfl
  | cons b l ih =>
    intro n
    cases n with
    | zero => rfl
    | succ n => rw [List.getElem?_cons_succ]; exact ih n
def byteAt (s : ByteArray) (n : Nat) : Option UInt8 := ByteArray.rec (motive := fun _ => Option UInt8) (fun x => Array.rec (motive := fun _ => Option UInt8) (fun l => nthF l n) x) s
theorem byteAt_eq (s : ByteArray) (n : Nat) : byteAt s n = s[n]? := by
  obtain ⟨⟨l⟩⟩ := s
  show nthF l n = _
  rw [nthF_eq]
  by_cases hn : n < l.length
  · rw [List.getElem?_eq_getElem hn]
    rw [getElem?_pos (⟨⟨l⟩⟩ : ByteArray) n hn]
    rfl
  · rw [List.getElem?_eq_none (by omega)]
    rw [getElem?_neg (⟨⟨l⟩⟩ : ByteArray) n hn]
def indexF (P : Program) (t : TypeId) (v w : Value) : Option Value :=
  match strTy P t with
  | true => match strOf v with
    | some s => match intOf w with
      | some (k, i) => match natOf i with
        | some n => match byteAt s n with
          | some b => some (.int .u8 (Int.ofNat b.toNat))
          | none => none
        | none => none
      | none => none
    | none => none
  | false => none
theorem indexF_ok {t : TypeId} {x y : Operand} {r : Value} (ho : o.op = .index t x y) (hr : indexF P t (evalF x a) (evalF y a) = some r) : aop P call o a h = some (.normal, a.put o.dst r, h) := by
  rw [evalF_eq, evalF_eq] at hr
  unfold indexF at hr
  split at hr
  · rename_i ht
    have hu := strTy_eq ht
    split at hr
    · rename_i s hs
      have hs := strOf_some hs
      split at hr
      · rename_i k i hi
        have hi := intOf_some hi
        split at hr
        · rename_i n hn
          have hn := natOf_some hn
          split at hr
          · rename_i b hb
            injection hr with hr
            subst hr hn
            rw [byteAt_eq] at hb
            unfold aop
            simp only [ho]
            refine generic_read (by rw [ho]; rfl) (by rw [ho]; rfl) ?_
            simp only [execOp, ho, hs, hi, Instr.index]
            rw [brun_bind, brun_bind]
            have e1 : brun P (asIntOf (Value.int k (Int.ofNat n))) h = some (k, Int.ofNat n) := rfl
            simp only [e1]
            rw [brun_bind, brun_underlying hu]
            have hnn : (0 : Int) ≤ Int.ofNat n := Int.natCast_nonneg n
            simp only [hnn, if_true, Int.toNat_natCast, Int.ofNat_eq_natCast, hb]
            rfl
          · cases hr
        · cases hr
      · cases hr
    · cases hr
  · cases hr
def sliceOf : Value → Option (Addr × Nat)
  | .slice (some a) len _ => some (a, len)
  | _ => none
theorem sliceOf_some {v : Value} {p : Addr} {n : Nat} (h : sliceOf v = some (p, n)) : ∃ c, v = .slice (some p) n c := by
  unfold sliceOf at h
  split at h
  · injection h with h
    injection h with h1 h2
    subst h1 h2
    exact ⟨_, rfl⟩
  · cases h
def elemTy (P : Program) (t : TypeId) : Option Nat :=
  match P.underlying t with
  | some (.slice e) => match P.info? e with
    | some i => some i.size
    | none => none
  | _ => none
def iaddrF (P : Program) (t : TypeId) (v w : Value) : Option Value :=
  match elemTy P t with
  | some sz => match sliceOf v with
    | some (p, len) => match intOf w with
      | some (k, i) => match natOf i with
        | some n => match Nat.ble (n + 1) len with
          | true => some (.pointer (some (p.add (n * sz))))
          | false => none
        | none => none
      | none => none
    | none => none
  | none => none
theorem iaddrF_ok {t : TypeId} {x y : Operand} {r : Value} (ho : o.op = .indexAddr t x y) (hr : iaddrF P t (evalF x a) (evalF y a) = some r) : aop P call o a h = some (.normal, a.put o.dst r, h) := by
  rw [evalF_eq, evalF_eq] at hr
  unfold iaddrF at hr
  split at hr
  · rename_i sz hsz
    split at hr
    · rename_i p len hs
      obtain ⟨c, hs⟩ := sliceOf_some hs
      split at hr
      · rename_i k i hi
        have hi := intOf_some hi
        split at hr
        · rename_i n hn
          have hn := natOf_some hn
          split at hr
          · rename_i hb
            injection hr with hr
            subst hr hn
            rw [Nat.ble_eq] at hb
            unfold elemTy at hsz
            split at hsz
            · rename_i e hu
              split at hsz
              · rename_i ti hti
                injection hsz with hsz
                subst hsz
                unfold aop
                simp only [ho]
                refine generic_read (by rw [ho]; rfl) (by rw [ho]; rfl) ?_
                simp only [execOp, ho, hs, hi, Instr.indexAt]
                rw [brun_bind, brun_bind]
                have e1 : brun P (asIntOf (Value.int k (Int.ofNat n))) h = some (k, Int.ofNat n) := rfl
                simp only [e1]
                rw [brun_bind, brun_underlying hu]
                simp only [pure_bind]
                rw [brun_bind, brun_underlying hu]
                have hnn : (0 : Int) ≤ Int.ofNat n ∧ Int.ofNat n < (len : Int) := ⟨Int.natCast_nonneg n, by simp only [Int.ofNat_eq_natCast]; omega⟩
                simp only [if_pos hnn]
                rw [brun_bind, brun_sizeOf hti]
                rfl
              · cases hsz
            · cases hsz
          · cases hr
        · cases hr
      · cases hr
    · cases hr
  · cases hr
def lenTy (P : Program) (ts : Array TypeId) : Nat :=
  match ts.toList with
  | t :: _ => match P.underlying t with
    | some .string => 1
    | some (.slice _) => 2
    | _ => 0
  | [] => 0
def lenV : Value → Option Nat
  | .slice _ n _ => some n
  | _ => none
def lenF (P : Program) (ts : Array TypeId) (v : Value) : Option Value :=
  match lenTy P ts with
  | 0 => none
  | m + 1 => match m with
    | 0 => match strOf v with
      | some s => some (.int .i64 (Int.ofNat (lenStr s)))
      | none => none
    | _ => match lenV v with
      | some n => some (.int .i64 (Int.ofNat n))
      | none => none
theorem lenF_ok {c : Call} {x : Operand} {r : Value} (ho : o.op = .call c) (hcal : c.callee = .builtin .len) (hargs : c.args = #[x]) (hr : lenF P c.argTypes (evalF x a) = some r) : aop P call o a h = some (.normal, a.put o.dst r, h) := by
  rw [evalF_eq] at hr
  have key : ∀ (ts : Array TypeId), c.argTypes = ts → brun P (execOp a.eval o) h = brun P (do Pure.pure (Next.value (← Builtin.len_ ts o.type #[a.eval x]))) h := by
    intro ts hts
    subst hts
    have hm : c.args.map a.eval = #[a.eval x] := by rw [hargs]; simp
    simp only [execOp, ho, resolve, hcal, pure_bind, invoke, builtin, hm]
  have fin : ∀ {q : Value}, brun P (Builtin.len_ c.argTypes o.type #[a.eval x]) h = some q → aop P call o a h = some (.normal, a.put o.dst q, h) := by
    intro q hq
    unfold aop
    simp only [ho, hcal]
    refine generic_read (by rw [ho]; simp [opOk, hcal, hargs]) (by rw [ho]; simp [heapOp, hcal]) ?_
    rw [key _ rfl, brun_bind, hq]
    rfl
  unfold lenF lenTy at hr
  cases hts : c.argTypes.toList with
  | nil => rw [hts] at hr; cases hr
  | cons t ts =>
    rw [hts] at hr
    have h0 : c.argTypes[0]? = some t := by rw [← Array.getElem?_toList, hts]; rfl
    have hx0 : (#[a.eval x] : Array Value)[0]? = some (a.eval x) := rfl
    dsimp only at hr
    cases hu : P.underlying t with
    | none => rw [hu] at hr; cases hr
    | some d =>
      rw [hu] at hr
      cases d with
      | string =>
        simp only at hr
        split at hr
        · rename_i s hs
          have hs := strOf_some hs
          injection hr with hr
          subst hr
          refine fin ?_
          unfold Builtin.len_
          rw [h0, hx0]
          dsimp only
          rw [brun_bind, brun_underlying hu, hs, lenStr_eq]
          rfl
        · cases hr
      | slice e =>
        simp only at hr
        split at hr
        · rename_i n hn
          injection hr with hr
          subst hr
          refine fin ?_
          unfold Builtin.len_
          rw [h0, hx0]
          dsimp only
          rw [brun_bind, brun_underlying hu]
          cases hv : a.eval x <;> rw [hv] at hn <;> simp [lenV] at hn
          subst hn
          rfl
        · cases hr
      | _ => cases hr
/-! ### stores -/
def oneTy (P : Program) (t : TypeId) : Bool :=
  match P.info? t with
  | some i => Nat.beq i.size 1
  | none => false
def plainV : Value → Bool
  | .agg _ => false
  | .tuple _ => false
  | _ => true
def storeF (P : Program) (t : TypeId) (v w : Value) (h : AH) : Option AH :=
  match oneTy P t with
  | true => match ptrOf v with
    | some p => match plainV w with
      | true => h.setCell p w
      | false => none
    | none => none
  | false => none
theorem storeF_ok {t : TypeId} {x y : Operand} {h1 : AH} (ho : o.op = .store t x y) (hr : storeF P t (evalF x a) (evalF y a) h = some h1) : aop P call o a h = some (.normal, a.put o.dst undef, h1) := by
  rw [evalF_eq, evalF_eq] at hr
  unfold storeF at hr
  split at hr
  · rename_i ht
    split at hr
    · rename_i p hp
      have hp := ptrOf_some hp
      split at hr
      · rename_i hpl
        unfold oneTy at ht
        split at ht
        · rename_i i hi
          rw [Nat.beq_eq] at ht
          have hcells : (a.eval y).cells = #[a.eval y] := by
            cases hv : a.eval y <;> rw [hv] at hpl <;> first | rfl | (cases hpl)
          have hadd : p.add 0 = p := by simp [Addr.add]
          have hst : arun P (Go.store p (a.eval y)) h = some ((), h1) := by
            simp only [Go.store, arun]
            cases hv : a.eval y <;> rw [hv] at hpl hr <;> first
              | (cases hpl; done)
              | (simp only [hr]; done)
              | (simp only [hr]; rfl)
          unfold aop
          simp only [ho]
          unfold generic
          have hok : opOk P o.op = true := by rw [ho]; rfl
          have hh : heapOp o.op = true := by rw [ho]; rfl
          have hrun : arun P (execOp a.eval o) h = some (.skip, h1) := by
            simp only [execOp, ho, hp, Instr.storeAt, Instr.sureAddr]
            rw [arun_bind', arun_bind']
            have e1 : arun P (Pure.pure p : Sem Addr) h = some (p, h) := rfl
            simp only [e1]
            unfold storeVar
            rw [arun_bind', arun_sizeOf hi]
            have hsz : (#[a.eval y] : Array Value).size = 1 := rfl
            simp only [hcells, ht, hsz, ne_eq, not_true_eq_false, if_false]
            have e3 : arun P (storeCells p [a.eval y] 0) h = some ((), h1) := by
              unfold storeCells
              rw [arun_bind', hadd, hst]
              rfl
            rw [e3]
            rfl
          simp only [hok, hh, hrun]
        · cases ht
      · cases hr
    · cases hr
  · cases hr
/-! ### tuples, pointers, choices -/
def extractF (v : Value) (i : Nat) : Option Value :=
  match v with
  | .tuple vs => vs.toList[i]?
  | _ => none
theorem extractF_ok {x : Operand} {i : Nat} {r : Value} (ho : o.op = .extract x i) (hr : extractF (evalF x a) i = some r) : aop P call o a h = some (.normal, a.put o.dst r, h) := by
  rw [evalF_eq] at hr
  unfold extractF at hr
  split at hr
  · rename_i vs hv
    have hvs : vs[i]? = some r := by rw [← Array.getElem?_toList]; exact hr
    unfold aop
    simp only [ho]
    refine generic_read (by rw [ho]; rfl) (by rw [ho]; rfl) ?_
    simp only [execOp, ho, hv, Instr.extract, hvs]
    rfl
  · cases hr
def nilF (v : Value) : Option Value :=
  match ptrOf v with
  | some p => some (.pointer (some p))
  | none => none
theorem nilF_ok {x : Operand} {r : Value} (ho : o.op = .nilCheck x) (hr : nilF (evalF x a) = some r) : aop P call o a h = some (.normal, a.put o.dst r, h) := by
  rw [evalF_eq] at hr
  unfold nilF at hr
  split at hr
  · rename_i p hp
    have hp := ptrOf_some hp
    injection hr with hr
    subst hr
    unfold aop
    simp only [ho, hp]
    rfl
  · cases hr
def pickF (c x y : Operand) (a : Env) : Option Value :=
  match boolOf (evalF c a) with
  | some b => some (Bool.rec (motive := fun _ => Value) (evalF y a) (evalF x a) b)
  | none => none
theorem pickF_ok {c x y : Operand} {r : Value} (ho : o.op = .pick c x y) (hr : pickF c x y a = some r) : aop P call o a h = some (.normal, a.put o.dst r, h) := by
  unfold pickF at hr
  split at hr
  · rename_i b hb
    have hb := boolOf_some hb
    rw [evalF_eq] at hb
    injection hr with hr
    subst hr
    unfold aop
    simp only [ho, hb]
    cases b with
    | true => rw [← evalF_eq x a]; rfl
    | false => rw [← evalF_eq y a]; rfl
  · cases hr
/-! ### loads -/
def loadX (P : Program) (t : TypeId) (v : Value) (h : AH) : Option Value :=
  match ptrOf v with
  | some p => match aggTy P t with
    | some n => loadAggF n p h
    | none => match plainTy P t with
      | true => cellF h p
      | false => none
  | none => none
theorem loadX_ok {t : TypeId} {x : Operand} {r : Value} (ho : o.op = .load t x) (hr : loadX P t (evalF x a) h = some r) : aop P call o a h = some (.normal, a.put o.dst r, h) := by
  unfold loadX at hr
  split at hr
  · rename_i p hp
    split at hr
    · rename_i n hn
      have hp := ptrOf_some hp
      rw [evalF_eq] at hp
      exact loadAggF_ok ho hn hp hr
    · split at hr
      · rename_i ht
        refine loadF_ok ho ?_
        unfold loadF
        simp only [ht, hp]
        rw [← cellF_eq]
        exact hr
      · cases hr
  · cases hr
def sliceX (mx : Option Operand) : TypeId → Operand → Option Operand → Option Operand → Oper → Program → ACall → Env → AH → AOut := Option.rec (motive := fun _ => TypeId → Operand → Option Operand → Option Operand → Oper → Program → ACall → Env → AH → AOut)
  (fun t x lo hi o P call a h => valF (partF P t (evalF x a) lo hi a) o P call a h) (fun _ _ _ _ _ o P call a h => aop P call o a h) mx
theorem sliceX_eq {t : TypeId} {x : Operand} {lo hi mx : Option Operand} (ho : o.op = .slice t x lo hi mx) : sliceX mx t x lo hi o P call a h = aop P call o a h := by
  cases mx with
  | none => exact valF_eq fun v hv => partF_ok ho hv
  | some m => rfl
/-! ### calls -/
def funcOf : Value → Option (FuncId × Array Value × Array Value)
  | .func (.func g) first cap => some (g, first, cap)
  | _ => none
theorem funcOf_some {v : Value} {g : FuncId} {x y : Array Value} (h : funcOf v = some (g, x, y)) : v = .func (.func g) x y := by
  unfold funcOf at h
  split at h
  · injection h with h
    injection h with h1 h2
    injection h2 with h2 h3
    subst h1 h2 h3
    rfl
  · cases h
def endF (r : Option (AEnd × AH)) (o : Oper) (a : Env) : AOut :=
  match r with
  | some (e, h') => match e with
    | .returned v => some (.normal, putF o.dst a v, h')
    | .panicked ch => some (.panic ch, a, h')
  | none => none
def mapF (a : Env) (l : List Operand) : List Value := List.rec (motive := fun _ => List Value) [] (fun x _ ih => evalF x a :: ih) l
theorem mapF_eq (a : Env) : ∀ l, mapF a l = l.map a.eval := by
  intro l
  induction l with
  | nil => rfl
  | cons x l ih =>
    show evalF x a :: mapF a l = _
    rw [ih, evalF_eq]
    rfl
def nilF' (l : List Value) : Bool := List.rec (motive := fun _ => Bool) true (fun _ _ _ => false) l
theorem nilF'_eq {l : List Value} (h : nilF' l = true) : l = [] := by
  cases l with
  | nil => rfl
  | cons x l => cases h
def argsF (first cap : Array Value) (args : Array Operand) (a : Env) : Array Value :=
  Bool.rec (motive := fun _ => Array Value) ((first ++ args.map fun x => evalF x a) ++ cap) (Bool.rec (motive := fun _ => Array Value) ((first ++ args.map fun x => evalF x a) ++ cap) ⟨mapF a args.toList⟩ (nilF' cap.toList)) (nilF' first.toList)
theorem argsF_eq (first cap : Array Value) (args : Array Operand) (a : Env) : argsF first cap args a = (first ++ args.map fun x => evalF x a) ++ cap := by
  unfold argsF
  cases h1 : nilF' first.toList with
  | false => rfl
  | true => cases h2 : nilF' cap.toList with
    | false => rfl
    | true =>
      have e1 : first = #[] := Array.toList_inj.1 (by simpa using nilF'_eq h1)
      have e2 : cap = #[] := Array.toList_inj.1 (by simpa using nilF'_eq h2)
      subst e1 e2
      show (⟨mapF a args.toList⟩ : Array Value) = _
      rw [mapF_eq]
      apply Array.ext'
      simp [evalF_eq]
def valueF (f : Operand) (c : Call) (o : Oper) (P : Program) (call : ACall) (a : Env) (h : AH) : AOut :=
  match funcOf (evalF f a) with
  | some (g, first, cap) => match fnFine P g with
    | true => endF (call g (argsF first cap c.args a) h) o a
    | false => none
  | none => aop P call o a h
theorem valueF_eq {f : Operand} {c : Call} (ho : o.op = .call c) (hc : c.callee = .value f) : valueF f c o P call a h = aop P call o a h := by
  unfold valueF
  split
  · rename_i g first cap hf
    have hf := funcOf_some hf
    rw [evalF_eq] at hf
    have hm : (c.args.map fun x => evalF x a) = c.args.map a.eval := by congr 1; funext x; exact evalF_eq x a
    unfold aop
    simp only [ho, hc, hf, argsF_eq, hm]
    cases hfine : fnFine P g with
    | false => rfl
    | true =>
      simp only
      cases hcall : call g ((first ++ c.args.map a.eval) ++ cap) h with
      | none => rfl
      | some q =>
        obtain ⟨e, h'⟩ := q
        cases e with
        | returned v => simp only [endF, putF_eq]; rfl
        | panicked ch => rfl
  · rfl
def builtinF (b : Builtin) : Call → Oper → Program → ACall → Env → AH → AOut :=
  match b with
  | .len => fun c o P call a h => match c.args.toList with
    | [x] => valF (lenF P c.argTypes (evalF x a)) o P call a h
    | _ => aop P call o a h
  | _ => fun _ o P call a h => aop P call o a h
theorem builtinF_eq {b : Builtin} {c : Call} (ho : o.op = .call c) (hc : c.callee = .builtin b) : builtinF b c o P call a h = aop P call o a h := by
  unfold builtinF
  split
  · split
    · rename_i x hx
      exact valF_eq fun v hv => lenF_ok ho hc (Array.toList_inj.1 (by simpa using hx)) hv
    · rfl
  · rfl
def calleeF (q : Callee) : Call → Oper → Program → ACall → Env → AH → AOut := Callee.rec (motive := fun _ => Call → Oper → Program → ACall → Env → AH → AOut) valueF (fun _ _ _ o P call a h => aop P call o a h) builtinF q
theorem calleeF_eq {c : Call} (ho : o.op = .call c) : calleeF c.callee c o P call a h = aop P call o a h := by
  cases hc : c.callee with
  | value f => exact valueF_eq ho hc
  | invoke r m => rfl
  | builtin b => exact builtinF_eq ho hc
def slowF (o : Oper) (P : Program) (call : ACall) (a : Env) (h : AH) : AOut := aop P call o a h
def storeR (r : Option AH) (o : Oper) (P : Program) (call : ACall) (a : Env) (h : AH) : AOut := Option.rec (motive := fun _ => AOut) (aop P call o a h) (fun h1 => some (.normal, putF o.dst a undef, h1)) r
/-- An operation. -/
def opF (p : Op) : Oper → Program → ACall → Env → AH → AOut :=
  Op.casesOn (motive := fun _ => Oper → Program → ACall → Env → AH → AOut) p
    (move := fun x o P call a h => some (.normal, putF o.dst a (evalF x a), h))
    (assign := fun x o P call a h => some (.normal, putF o.dst a (evalF x a), h))
    (pick := fun c x y o P call a h => valF (pickF c x y a) o P call a h)
    (alloc := allocF)
    (box := fun _ => boxF)
    (build := fun _ _ => slowF)
    (buildSlice := fun _ _ _ => slowF)
    (insert := fun _ _ _ _ => slowF)
    (load := fun t x o P call a h => valF (loadX P t (evalF x a) h) o P call a h)
    (store := fun t x y o P call a h => storeR (storeF P t (evalF x a) (evalF y a) h) o P call a h)
    (ready := fun _ => slowF)
    (waits := fun _ => slowF)
    (nilCheck := fun x o P call a h => valF (nilF (evalF x a)) o P call a h)
    (binOp := fun op t x y n o P call a h => valF (binF op (evalF x a) (evalF y a)) o P call a h)
    (unOp := fun _ _ _ => slowF)
    (convert := fun _ _ _ => slowF)
    (sliceToArrayPointer := fun _ _ => slowF)
    (makeInterface := fun _ _ => slowF)
    (makeFunc := fun _ _ _ => slowF)
    (makeMap := fun _ _ => slowF)
    (makeChan := fun _ _ => slowF)
    (makeSlice := fun _ _ _ => slowF)
    (slice := fun t x lo hi mx => sliceX mx t x lo hi)
    (fieldAddr := fun s x f o P call a h => valF (fieldF P s (evalF x a) f) o P call a h)
    (field := fun _ _ _ => slowF)
    (indexAddr := fun t x y o P call a h => valF (iaddrF P t (evalF x a) (evalF y a)) o P call a h)
    (index := fun t x y o P call a h => valF (indexF P t (evalF x a) (evalF y a)) o P call a h)
    (lookup := fun _ _ _ _ => slowF)
    (mapUpdate := fun _ _ _ _ => slowF)
    (mapEntry := fun _ _ _ => slowF)
    (entryStore := fun _ _ _ _ => slowF)
    (range := fun _ _ => slowF)
    (next := fun _ _ => slowF)
    (entry := fun _ => slowF)
    (typeAssert := fun _ _ _ _ => slowF)
    (extract := fun x i o P call a h => valF (extractF (evalF x a) i) o P call a h)
    (call := fun c => calleeF c.callee c)
    (go := fun _ => slowF)
    (defer := fun _ => slowF)
    (panic := fun _ => slowF)
    (send := fun _ _ => slowF)
    (recv := fun _ _ _ => slowF)
    (select := fun _ _ => slowF)
theorem opF_eq : opF o.op o P call a h = aop P call o a h := by
  cases ho : o.op with
  | move x =>
    show some (Exit.normal, putF o.dst a (evalF x a), h) = _
    unfold aop
    simp only [ho, putF_eq, evalF_eq]
    rfl
  | assign x =>
    show some (Exit.normal, putF o.dst a (evalF x a), h) = _
    unfold aop
    simp only [ho, putF_eq, evalF_eq]
    rfl
  | pick c x y => exact valF_eq fun v hv => pickF_ok ho hv
  | load t x => exact valF_eq fun v hv => loadX_ok ho hv
  | alloc t => exact allocF_eq ho
  | box t x => exact boxF_eq ho
  | slice t x lo hi mx => exact sliceX_eq ho
  | store t x y =>
    show storeR (storeF P t (evalF x a) (evalF y a) h) o P call a h = _
    cases hs : storeF P t (evalF x a) (evalF y a) h with
    | none => rfl
    | some h1 =>
      rw [storeF_ok ho hs]
      show some (Exit.normal, putF o.dst a undef, h1) = _
      rw [putF_eq]
  | nilCheck x => exact valF_eq fun v hv => nilF_ok ho hv
  | binOp op t x y n => exact valF_eq fun v hv => binF_ok ho hv
  | fieldAddr s x f => exact valF_eq fun v hv => fieldF_ok ho hv
  | indexAddr t x y => exact valF_eq fun v hv => iaddrF_ok ho hv
  | index t x y => exact valF_eq fun v hv => indexF_ok ho hv
  | extract x i => exact valF_eq fun v hv => extractF_ok ho hv
  | call c => exact calleeF_eq ho
  | _ => rfl
end
end
end Go.Proofs.YtiffnkmbmenhfaaDoor.Run
/-! The same, quicker: regions, code, calls. -/
namespace Go.Proofs.YtiffnkmbmenhfaaDoor.Run
open Go Go.RowKit
set_option linter.unusedVariables false
set_option linter.unusedSimpArgs false
noncomputable section

def stepF (o : Oper) (P : Program) (call : ACall) (ops : Array Oper) (a : Env) (h : AH) : AOut :=
  Bool.rec (motive := fun _ => AOut) (some (.normal, putF o.dst a undef, h)) (opF o.op o P call a h) (wantF o.guard ops a)
def aopsF (l : List Oper) : Program → ACall → Array Oper → Env → AH → AOut := List.rec (motive := fun _ => Program → ACall → Array Oper → Env → AH → AOut) (fun _ _ _ a h => some (.normal, a, h))
  (fun o _ ih P call ops a h => thenF (stepF o P call ops a h) (ih P call ops)) l
theorem stepF_eq (o : Oper) (P : Program) (call : ACall) (ops : Array Oper) (a : Env) (h : AH) : stepF o P call ops a h = match wantedE o ops a with
    | true => aop P call o a h
    | false => some (.normal, a.put o.dst undef, h) := by
  unfold stepF
  rw [wantF_eq]
  cases wantedE o ops a with
  | true => exact opF_eq
  | false =>
    show some (Exit.normal, putF o.dst a undef, h) = _
    rw [putF_eq]
theorem aopsF_eq (P : Program) (call : ACall) (ops : Array Oper) : ∀ (l : List Oper) (a : Env) (h : AH), aopsF l P call ops a h = aops P call ops l a h := by
  intro l
  induction l with
  | nil => intro a h; rfl
  | cons o rest ih =>
    intro a h
    show thenF (stepF o P call ops a h) (aopsF rest P call ops) = _
    rw [thenF_eq, stepF_eq]
    simp only [aops]
    cases hw : wantedE o ops a with
    | false => exact ih _ h
    | true =>
      simp only
      cases aop P call o a h with
      | none => rfl
      | some r =>
        obtain ⟨e, a', h'⟩ := r
        cases e <;> first | exact ih a' h' | rfl
def loopF (n : Nat) : (Env → AH → AOut) → Env → AH → AOut := Nat.rec (motive := fun _ => (Env → AH → AOut) → Env → AH → AOut) (fun _ _ _ => none) (fun _ ih f a h => thenF (f a h) (ih f)) n
theorem loopF_eq (f : Env → AH → AOut) : ∀ (n : Nat) (a : Env) (h : AH), loopF n f a h = loopN f n a h := by
  intro n
  induction n with
  | zero => intro a h; rfl
  | succ n ih =>
    intro a h
    show thenF (f a h) (loopF n f) = _
    rw [thenF_eq]
    simp only [loopN]
    cases f a h with
    | none => rfl
    | some r =>
      obtain ⟨e, a', h'⟩ := r
      cases e <;> first | exact ih a' h' | rfl
def blockF (id : Nat) (r : AOut) : AOut := Option.rec (motive := fun _ => AOut) none (fun p => Prod.rec (motive := fun _ => AOut) (fun e q => Prod.rec (motive := fun _ => AOut) (fun a h =>
  Exit.rec (motive := fun _ => AOut) (some (.normal, a, h)) (fun i => Bool.rec (motive := fun _ => AOut) (some (.exit i, a, h)) (some (.normal, a, h)) (Nat.beq i id)) (fun l => some (.goto l, a, h)) (some (.ret, a, h)) (fun c => some (.panic c, a, h)) (some (.outgrown, a, h)) e) q) p) r
theorem blockF_eq (id : Nat) (r : AOut) : blockF id r = match r with
    | some (.exit i, a', h') => if i = id then some (.normal, a', h') else some (.exit i, a', h')
    | r => r := by
  cases r with
  | none => rfl
  | some p =>
    obtain ⟨e, a, h⟩ := p
    cases e with
    | exit i =>
      show Bool.rec (motive := fun _ => AOut) (some (Exit.exit i, a, h)) (some (Exit.normal, a, h)) (Nat.beq i id) = if i = id then some (Exit.normal, a, h) else some (Exit.exit i, a, h)
      by_cases hi : i = id
      · subst hi
        rw [Nat.beq_refl, if_pos rfl]
      · have : Nat.beq i id = false := by
          cases hb : Nat.beq i id with
          | false => rfl
          | true => exact absurd (Nat.eq_of_beq_eq_true hb) hi
        rw [this, if_neg hi]
    | _ => rfl
def condF (v : Value) (x y : Env → AH → AOut) (a : Env) (h : AH) : AOut :=
  match boolOf v with
  | some b => Bool.rec (motive := fun _ => AOut) (y a h) (x a h) b
  | none => none
def panicEnd (ops : Array Oper) (p : Oper × Nat) (rest : List (Oper × Nat)) (a : Env) (h : AH) (c : List PanicEntry) (a' : Env) (h' : AH) : Option (List Step × Exit × Env × AH) :=
  match rest with
  | [] => match mainOp p.1 && lastAll ops p.2 with
    | true => some ([⟨p.1, p.2, a, h, a.put p.1.dst undef, h⟩], .panic c, a', h')
    | false => none
  | _ :: _ => none
def logF (ops : Array Oper) (l : List (Oper × Nat)) : Program → ACall → Env → AH → Option (List Step × Exit × Env × AH) := List.rec (motive := fun _ => Program → ACall → Env → AH → Option (List Step × Exit × Env × AH)) (fun _ _ a h => some ([], .normal, a, h))
  (fun p rest ih P call a h => match stepF p.1 P call ops a h with
    | some (e, a', h') => match e with
      | .normal => match ih P call a' h' with
        | some (l, r) => some (⟨p.1, p.2, a, h, a', h'⟩ :: l, r)
        | none => none
      | .panic c => panicEnd ops p rest a h c a' h'
      | _ => none
    | none => none) l
theorem logF_eq (P : Program) (call : ACall) (ops : Array Oper) : ∀ (l : List (Oper × Nat)) (a : Env) (h : AH), logF ops l P call a h = logOps P call ops l a h := by
  intro l
  induction l with
  | nil => intro a h; rfl
  | cons p rest ih =>
    intro a h
    show (match stepF p.1 P call ops a h with
      | some (e, a', h') => match e with
        | .normal => match logF ops rest P call a' h' with
          | some (l, r) => some ((⟨p.1, p.2, a, h, a', h'⟩ : Step) :: l, r)
          | none => none
        | .panic c => panicEnd ops p rest a h c a' h'
        | _ => none
      | none => (none : Option (List Step × Exit × Env × AH))) = _
    rw [stepF_eq]
    simp only [logOps]
    cases hw : wantedE p.1 ops a with
    | false =>
      simp only [ih]
      cases logOps P call ops rest (a.put p.1.dst undef) h <;> rfl
    | true =>
      simp only
      cases aop P call p.1 a h with
      | none => rfl
      | some r =>
        obtain ⟨e, a', h'⟩ := r
        cases e <;> first
          | (simp only [ih]
             cases logOps P call ops rest a' h' <;> rfl)
          | rfl
          | (unfold panicEnd
             cases rest <;> rfl)
def stableF (P : Program) (call : ACall) (ops : Array Oper) (b : Array Nat) : List Step → Bool
  | [] => true
  | s :: log => (heapOp s.o.op || !wantF s.o.guard ops s.a || log.all fun q => !mainOp q.o || (b.getD q.i 0).testBit s.i || sameOut s.o s.a' (opF s.o.op s.o P call s.a q.h')) && stableF P call ops b log
theorem stableF_eq (P : Program) (call : ACall) (ops : Array Oper) (b : Array Nat) : ∀ l, stableF P call ops b l = stable P call ops b l := by
  intro l
  induction l with
  | nil => rfl
  | cons s l ih =>
    simp only [stableF, stable, ih, opF_eq, wantF_eq]
def adrawF (ops : Array Oper) (P : Program) (call : ACall) (a : Env) (h : AH) : AOut :=
  match logF ops (eager (Region.before ops) ops.toList.zipIdx) P call a h with
  | some (log, e, a', h') => match logOk ops.size ops (Region.before ops) log 0 0 with
    | true => match stableF P call ops (Region.before ops) log with
      | true => some (e, a', h')
      | false => none
    | false => none
  | none => none
theorem adrawF_eq {ops : Array Oper} (hd : orderOk ops = true) (P : Program) (call : ACall) (a : Env) (h : AH) : adrawF ops P call a h = adraw P call ops a h := by
  unfold adrawF adraw
  rw [logF_eq, hd]
  simp only [stableF_eq]
  rfl
def drawsOk : Code → Bool
  | .region _ ops true => orderOk ops
  | .seq x y => drawsOk x && drawsOk y
  | .cond _ x y => drawsOk x && drawsOk y
  | .block _ b => drawsOk b
  | .loop b => drawsOk b
  | _ => true
abbrev CodeF := Program → ACall → Nat → Env → AH → AOut
def stopF : CodeF := fun _ _ _ _ _ => none
def acodeF (c : Code) : CodeF := Code.rec (motive := fun _ => CodeF)
  (fun _ _ _ a h => some (.normal, a, h))
  (fun _ ops d => Bool.rec (motive := fun _ => CodeF) (fun P call _ a h => aopsF ops.toList P call ops a h) (fun P call _ a h => adrawF ops P call a h) d)
  (fun _ _ x y P call N a h => thenF (x P call N a h) (y P call N))
  (fun c _ _ x y P call N a h => condF (evalF c a) (x P call N) (y P call N) a h)
  (fun id _ b P call N a h => blockF id (b P call N a h))
  (fun _ b P call N a h => loopF N (b P call N) a h)
  (fun _ _ _ _ _ _ => stopF)
  (fun id _ _ _ a h => some (.exit id, a, h))
  (fun _ _ => stopF)
  (fun _ => stopF)
  (fun _ => stopF)
  (fun _ _ _ a h => some (.ret, a, h))
  (fun _ => stopF) c
theorem acodeF_eq (P : Program) (call : ACall) (N : Nat) : ∀ (c : Code), drawsOk c = true → ∀ (a : Env) (h : AH), acodeF c P call N a h = acode P call N c a h := by
  intro c
  induction c with
  | region id ops d =>
    intro hd a h
    cases d with
    | false =>
      show aopsF ops.toList P call ops a h = _
      rw [aopsF_eq]
      rfl
    | true =>
      show adrawF ops P call a h = _
      rw [adrawF_eq hd]
      rfl
  | seq x y ihx ihy =>
    intro hd a h
    simp only [drawsOk, Bool.and_eq_true] at hd
    have ihx := ihx hd.1
    have ihy := ihy hd.2
    show thenF (acodeF x P call N a h) (acodeF y P call N) = _
    rw [thenF_eq, ihx]
    simp only [acode]
    cases acode P call N x a h with
    | none => rfl
    | some r =>
      obtain ⟨e, a', h'⟩ := r
      cases e <;> first | exact ihy a' h' | rfl
  | cond c x y ihx ihy =>
    intro hd a h
    simp only [drawsOk, Bool.and_eq_true] at hd
    have ihx := ihx hd.1
    have ihy := ihy hd.2
    show condF (evalF c a) (acodeF x P call N) (acodeF y P call N) a h = _
    rw [evalF_eq]
    simp only [acode]
    unfold condF
    cases hc : a.eval c with
    | bool b => cases b with
      | true => exact ihx a h
      | false => exact ihy a h
    | _ => rfl
  | block id b ih =>
    intro hd a h
    have ih := ih hd
    show blockF id (acodeF b P call N a h) = _
    rw [blockF_eq, ih]
    simp only [acode]
    cases acode P call N b a h with
    | none => rfl
    | some r =>
      obtain ⟨e, a', h'⟩ := r
      cases e <;> rfl
  | loop b ih =>
    intro hd a h
    have ih := ih hd
    show loopF N (acodeF b P call N) a h = _
    rw [loopF_eq]
    simp only [acode]
    congr 1
    funext a h
    exact ih a h
  | _ => intro hd a h; rfl
def exitF (P : Program) (call : ACall) (N : Nat) (fn : Func) (r : AOut) : Option (AEnd × AH) :=
  match r with
  | some (e, a, h') => match e with
    | .normal => aleave P call N fn a a.defers .returning h'
    | .ret => aleave P call N fn a a.defers .returning h'
    | .panic ch => aleave P call N fn a a.defers (.panicking ch) h'
    | _ => none
  | none => none
def bodyF (P : Program) (f : FuncId) : Option (Func × Code) :=
  match P.funcs[f]? with
  | some fn => match fn.body with
    | some c => some (fn, c)
    | none => none
  | none => none
def fnFair (P : Program) (f : FuncId) : Bool :=
  match fnOk P f with
  | true => match bodyF P f with
    | some (_, c) => drawsOk c
    | none => true
  | false => false
/-- Functions whose text keeps to the rules, as a number's bits. -/
def Fine (P : Program) (S : Nat) : Prop := ∀ f, S.testBit f = true → fnFair P f = true
def fineAll (P : Program) (S n : Nat) : Bool := Nat.rec (motive := fun _ => Bool) true (fun f b => Bool.rec (motive := fun _ => Bool) false (Bool.rec (motive := fun _ => Bool) true (fnFair P f) (Nat.testBit S f)) b) n
theorem fineAll_ok {P : Program} {S n : Nat} (h : fineAll P S n = true) (hS : S < 2 ^ n) : Fine P S := by
  have key : ∀ n, fineAll P S n = true → ∀ f, f < n → S.testBit f = true → fnFair P f = true := by
    intro n
    induction n with
    | zero => intro _ f hf; omega
    | succ n ih =>
      intro h f hf hb
      have h : Bool.rec (motive := fun _ => Bool) false (Bool.rec (motive := fun _ => Bool) true (fnFair P n) (Nat.testBit S n)) (fineAll P S n) = true := h
      cases h1 : fineAll P S n with
      | false => rw [h1] at h; cases h
      | true =>
        rw [h1] at h
        by_cases hfn : f = n
        · subst hfn
          have h : Bool.rec (motive := fun _ => Bool) true (fnFair P f) (Nat.testBit S f) = true := h
          rw [hb] at h
          exact h
        · exact ih h1 f (by omega) hb
  intro f hb
  refine key n h f (Classical.byContradiction fun hge => ?_) hb
  have : S.testBit f = false := Nat.testBit_lt_two_pow (Nat.lt_of_lt_of_le hS (Nat.pow_le_pow_right (by omega) (by omega)))
  rw [this] at hb
  cases hb
def acallB (P : Program) (N : Nat) (call : ACall) (f : FuncId) (args : Array Value) (h : AH) : Option (AEnd × AH) :=
  match fnOk P f && Nat.ble args.size 1000000, P.funcs[f]? with
  | true, some fn => match fn.body with
    | none => none
    | some c => exitF P call N fn (acode P call N c (Env.of args.toList) h)
  | _, _ => none
theorem exitF_eq (P : Program) (call : ACall) (N : Nat) (fn : Func) (r : AOut) : exitF P call N fn r = match r with
    | some (.normal, a, h') => aleave P call N fn a a.defers .returning h'
    | some (.ret, a, h') => aleave P call N fn a a.defers .returning h'
    | some (.panic ch, a, h') => aleave P call N fn a a.defers (.panicking ch) h'
    | _ => none := by
  unfold exitF
  cases r with
  | none => rfl
  | some r =>
    obtain ⟨e, a', h'⟩ := r
    cases e <;> rfl
theorem acallB_eq (P : Program) (N n : Nat) (f : FuncId) (args : Array Value) (h : AH) : acall P N (n + 1) f args h = acallB P N (acall P N n) f args h := by
  unfold acallB
  simp only [acall, exitF_eq]
  rfl
def acallF (P : Program) (S N : Nat) : Nat → ACall
  | 0 => fun _ _ _ => none
  | n + 1 => fun f args h => match Nat.testBit S f with
    | true => match Nat.ble args.size 1000000 with
      | true => match bodyF P f with
        | some (fn, c) => exitF P (acallF P S N n) N fn (acodeF c P (acallF P S N n) N (Env.of args.toList) h)
        | none => none
      | false => none
    | false => acallB P N (acallF P S N n) f args h
theorem acallF_eq {P : Program} {S : Nat} (hS : Fine P S) (N : Nat) : ∀ n, acallF P S N n = acall P N n := by
  intro n
  induction n with
  | zero => rfl
  | succ n ih =>
    funext f args h
    rw [acallB_eq]
    simp only [acallF, ih]
    cases hb : Nat.testBit S f with
    | false => rfl
    | true =>
      have hf := hS f hb
      unfold fnFair at hf
      unfold acallB
      cases hok : fnOk P f with
      | false => rw [hok] at hf; cases hf
      | true =>
        rw [hok] at hf
        simp only at hf
        cases hs : Nat.ble args.size 1000000 with
        | false => rfl
        | true =>
          unfold bodyF at hf ⊢
          cases hfn : P.funcs[f]? with
          | none => rfl
          | some fn =>
            rw [hfn] at hf
            cases hbd : fn.body with
            | none => simp [hbd]
            | some c =>
              simp only [hbd] at hf
              simp only [hbd, Bool.and_self]
              rw [acodeF_eq P _ N c hf]
end
end Go.Proofs.YtiffnkmbmenhfaaDoor.Run
/-! The start: listed variables as rows; what is known behind a call that is run over rows. -/
namespace Go.Proofs.YtiffnkmbmenhfaaDoor.Run
open Go Go.RowKit
set_option linter.unusedVariables false
set_option linter.unusedSimpArgs false

/-- Rows for the first variables. -/
noncomputable def rowsOf : Nat → List (List Value) → Tr Row → Tr Row
  | _, [], t => t
  | i, cs :: l, t => rowsOf (i + 1) l (t.set 16 i (.ro cs))
theorem rowsOf_get : ∀ (l : List (List Value)) (i : Nat) (t : Tr Row) (q : Nat), i + l.length < 1073741824 → (rowsOf i l t).get q = if i ≤ q ∧ q < i + l.length then (l[q - i]?).map .ro else t.get q := by
  intro l
  induction l with
  | nil => intro i t q _; rw [if_neg (by simp)]; rfl
  | cons v l ih =>
    intro i t q hl
    simp only [List.length_cons] at hl
    simp only [rowsOf, List.length_cons]
    rw [ih (i + 1) _ q (by omega), Tr.get_set16 _ _ _ _ (by omega)]
    by_cases h1 : q = i
    · subst h1
      rw [if_neg (by omega), if_pos rfl, if_pos (by omega)]
      simp
    · rw [if_neg h1]
      by_cases h2 : i + 1 ≤ q ∧ q < i + 1 + l.length
      · rw [if_pos h2, if_pos (by omega)]
        have : q - i = (q - (i + 1)) + 1 := by omega
        rw [this, List.getElem?_cons_succ]
      · rw [if_neg h2, if_neg (by omega)]
noncomputable def startAH (l : List (List Value)) : AH := ⟨l.length, rowsOf 0 l .leaf⟩
def startRen (n : Nat) : Ren := fun g => if g < n then some ⟨g, 0, 0⟩ else none
/-- The variables' cells lie in the world. -/
def Lies (W : World) (l : List (List Value)) : Prop := ∀ (g : Nat) cs, l[g]? = some cs → ∀ (i : Nat) v, cs[i]? = some v → W.cell? ⟨g, i, none⟩ = some v
theorem start_get {l : List (List Value)} (hl : l.length < 1000) (g : Nat) : (startAH l).get g = (l[g]?).map .ro := by
  have := rowsOf_get l 0 .leaf g (by omega)
  show (rowsOf 0 l .leaf).get g = _
  rw [this]
  by_cases h : g < l.length
  · rw [if_pos (by omega)]; rfl
  · rw [if_neg (by omega), List.getElem?_eq_none (by omega)]; rfl
theorem start_wrel {W : World} {l : List (List Value)} (hl : l.length < 1000) (hs : l.length ≤ W.heap.size) (hg : ∀ (g : Nat) cs, l[g]? = some cs → ∀ v ∈ cs, ground 8 v = true) (h : Lies W l) : WRel (startRen l.length) (startAH l) W := by
  refine ⟨?_, ?_, ?_, ?_, ?_⟩
  · show l.length ≤ AH.lim
    simp only [AH.lim]
    omega
  · intro a p hp
    unfold startRen at hp
    split at hp
    · assumption
    · cases hp
  · intro a p hp
    unfold startRen at hp
    split at hp
    · injection hp with hp
      subst hp
      show a < W.heap.size
      omega
    · cases hp
  · intro a p r hp hr
    unfold startRen at hp
    split at hp
    · injection hp with hp
      subst hp
      rw [start_get hl] at hr
      obtain ⟨cs, hcs, rfl⟩ := Option.map_eq_some_iff.1 hr
      intro i v hv
      exact ⟨v, h a cs hcs i v hv, ground_rel _ 8 v (hg a cs hcs v (List.mem_of_getElem? hv))⟩
    · cases hp
  · intro a a' p p' hp hp' hb hne
    unfold startRen at hp hp'
    split at hp
    · split at hp'
      · injection hp with hp
        injection hp' with hp'
        subst hp hp'
        exact absurd hb hne
      · cases hp'
    · cases hp
theorem start_below {W W' : World} {l : List (List Value)} (hl : l.length < 1000) {ρ1 : Ren} {h1 : AH} (fr : Fr (startRen l.length) (startAH l) W ρ1 h1 W') : Below W.heap.size W W' := by
  refine ⟨fr.os, fr.tape, fr.output, fr.size, fun k hk => (fr.same k hk ?_).1⟩
  rintro ⟨a, p, hp, hpb, hro⟩
  unfold startRen at hp
  split at hp
  · rename_i ha
    exact hro l[a] (by rw [start_get hl, List.getElem?_eq_getElem ha]; rfl)
  · cases hp
/-- A closed call that is run over rows to the answer true. -/
theorem closed_true {P : Program} (md : P.follows .mixedOrders = true) {W : World} {l : List (List Value)} (hP : P.globals.size = l.length) (hl : l.length < 1000) (hs : l.length ≤ W.heap.size)
    (hg : ∀ (g : Nat) cs, l[g]? = some cs → ∀ v ∈ cs, ground 8 v = true) (h : Lies W l) {S N m : Nat} (hS : Fine P S) {f : FuncId} {h1 : AH} (hr : acallF P S N m f #[] (startAH l) = some (.returned (.bool true), h1)) :
    Calls P f #[] W fun e W' => e = .returned (.bool true) ∧ Below W.heap.size W W' := by
  rw [acallF_eq hS] at hr
  have hgl : Gl P (startRen l.length) := fun g hgl => ⟨⟨g, 0, 0⟩, by unfold startRen; rw [if_pos (by omega)], rfl, rfl⟩
  refine Calls.mono (acall_ok md N m f #[] #[] (startAH l) W (startRen l.length) _ h1 (start_wrel hl hs hg h) hgl (AsRel.nil _) hr) ?_
  rintro e W' ⟨ρ1, _, fr, he⟩
  cases he with
  | returned v v' hv => cases hv; exact ⟨rfl, start_below hl fr⟩
/-! ### listed variables -/
theorem laid_one {P : Program} {W : World} : ∀ {laid : List (String × DataW Unit)} {ps : List MemPlace}, DataW.LaidVars P W laid ps → ∀ {n : String} {d : DataW Unit}, (n, d) ∈ laid →
    ∃ g t cs fuel p, P.globalNamed n = some g ∧ (P.globals[g]?).map (·.type) = some t ∧ W.var? P n = some cs ∧ DataW.trod (fun _ => ()) P W 0 (fun _ => true) false fuel t cs.toList = some (d, p) := by
  intro laid
  induction laid with
  | nil => intro ps _ n d h; simp at h
  | cons x r ih =>
    intro ps hl n d h
    obtain ⟨n', d'⟩ := x
    obtain ⟨g, t, cs, fuel, p, q, h1, h2, h3, h4, h5, _⟩ := hl
    cases h with
    | head => exact ⟨g, t, cs, fuel, p, h1, h2, h3, h4⟩
    | tail _ h => exact ih h5 h
/-- A listed array of strings. -/
theorem laid_strings {P : Program} {W : World} {laid : List (String × DataW Unit)} {ps : List MemPlace} (hl : DataW.LaidVars P W laid ps) {n : String} {ss : List (List UInt8)} (hm : (n, DataW.agg (ss.map fun b => .lit (.string b))) ∈ laid) {g : Nat} (hg : P.globalNamed n = some g)
    {t e : TypeId} {k : Nat} (ht : (P.globals[g]?).map (·.type) = some t) (hu : P.underlying t = some (.array k e)) (he : P.underlying e = some .string) (hce : P.cellsOf e = 1) :
    g < W.heap.size ∧ ∀ (i : Nat) b, ss[i]? = some b → W.cell? ⟨g, i, none⟩ = some (.string ⟨b.toArray⟩) := by
  obtain ⟨g', t', cs, fuel, p, h1, h2, h3, h4⟩ := laid_one hl hm
  obtain rfl := Option.some.inj (hg.symm.trans h1)
  obtain rfl := Option.some.inj (ht.symm.trans h2)
  constructor
  · simp only [World.var?, hg, Option.bind_some] at h3
    by_cases hlt : g < W.heap.size
    · exact hlt
    · rw [Array.getElem?_eq_none (by omega)] at h3
      simp at h3
  · obtain ⟨xs, m, rfl, hx, hlen, hn, hel⟩ := DataW.trod_array hu h4
    simp only [Prod.mk.injEq, DataW.agg.injEq] at hx
    intro i b hb
    have hi : i < xs.length := by
      have h5 := (List.getElem?_eq_some_iff.1 hb).1
      have h6 := congrArg List.length hx.1
      simp only [List.length_map] at h6
      omega
    have h7 := hel i (by omega)
    rw [hce, Nat.mul_one, List.getElem?_eq_getElem hi] at h7
    obtain ⟨s, hs1, hs2, _⟩ := DataW.trod_string he h7
    have h8 : (xs.map (·.1))[i]? = some (.lit (.string b)) := by rw [← hx.1, List.getElem?_map, hb]; rfl
    rw [List.getElem?_map, List.getElem?_eq_getElem hi, hs2] at h8
    simp only [Option.map_some, Option.some.injEq, DataW.lit.injEq, Lit.string.injEq] at h8
    rw [World.var?_cell hg h3 i]
    have h9 : (cs.toList.drop i).head? = some (.string s) := by
      have := congrArg List.head? hs1
      rw [List.head?_take] at this
      simpa using this
    rw [List.head?_drop, Array.getElem?_toList] at h9
    rw [h9, ← h8]
end Go.Proofs.YtiffnkmbmenhfaaDoor.Run
