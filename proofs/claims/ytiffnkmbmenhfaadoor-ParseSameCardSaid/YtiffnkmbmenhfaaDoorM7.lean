import Derived.Test.YtiffnkmbmenhfaaDoorM6
import Derived.IntWalk
import Derived.Laws.Strings
import Derived.Laws.Strings2
/-! The same, quicker: texts in which the kernel has little to copy. -/
namespace Go.Proofs.YtiffnkmbmenhfaaDoor.Run
open Go Go.RowKit
set_option linter.unusedVariables false
set_option linter.unusedSimpArgs false
noncomputable section

def evalF (x : Operand) : Env → Value := Operand.rec (motive := fun _ => Env → Value)
  (fun t a => Env.rec (motive := fun _ => Value) (fun tr _ => Option.rec (motive := fun _ => Value) undef (fun v => v) (tr.get t)) a) (fun v _ => v) (fun g _ => .pointer (some ⟨g, 0, none⟩)) (fun f _ => .func (.func f) #[] #[]) x
theorem evalF_eq (x : Operand) (a : Env) : evalF x a = a.eval x := by
  cases x with
  | tmp t =>
    cases a with
    | mk tr ds =>
      show Option.rec (motive := fun _ => Value) undef (fun v => v) (tr.get t) = match tr.get t with
        | some v => v
        | none => undef
      cases tr.get t <;> rfl
  | const v => rfl
  | global g => rfl
  | func f => rfl
def putF (d : Option Tmp) : Env → Value → Env := Option.rec (motive := fun _ => Env → Value → Env) (fun a _ => a) (fun d a v => Env.rec (motive := fun _ => Env) (fun t ds => ⟨t.set 16 d v, ds⟩) a) d
theorem putF_eq (d : Option Tmp) (a : Env) (v : Value) : putF d a v = a.put d v := by
  cases d with
  | none => rfl
  | some d => cases a; rfl
def nthV {β : Type} (l : List β) : Nat → Option β := List.rec (motive := fun _ => Nat → Option β) (fun _ => none) (fun b _ ih n => Nat.rec (motive := fun _ => Option β) (some b) (fun m _ => ih m) n) l
theorem nthV_eq {β : Type} : ∀ (l : List β) (n : Nat), nthV l n = l[n]? := by
  intro l
  induction l with
  | nil => intro n; rfl
  | cons b l ih =>
    intro n
    cases n with
    | zero => rfl
    | succ n => rw [List.getElem?_cons_succ]; exact ih n
def boolOf : Value → Option Bool
  | .bool b => some b
  | _ => none
def eqB (b : Bool) : Bool → Bool := Bool.rec (motive := fun _ => Bool → Bool) (fun c => Bool.rec (motive := fun _ => Bool) true false c) (fun c => c) b
theorem eqB_eq (b c : Bool) : eqB b c = (b == c) := by cases b <;> cases c <;> rfl
def guardF (ops : Array Oper) (a : Env) (p : Nat × Bool) : Bool :=
  match nthV ops.toList p.1 with
  | some g => match g.dst with
    | some d => match boolOf (evalF (.tmp d) a) with
      | some b => eqB b p.2
      | none => false
    | none => false
  | none => false
theorem guardF_eq (ops : Array Oper) (a : Env) (p : Nat × Bool) : guardF ops a p = match a.yielded ops p.1 with
    | some b => b == p.2
    | none => false := by
  unfold guardF Env.yielded
  rw [nthV_eq, Array.getElem?_toList]
  cases ops[p.1]? with
  | none => rfl
  | some g =>
    simp only [Option.bind_some]
    cases g.dst with
    | none => rfl
    | some d =>
      simp only
      rw [evalF_eq]
      simp only [Env.eval]
      cases a.t.get d with
      | none => rfl
      | some v =>
        simp only
        cases v <;> first | exact eqB_eq _ _ | rfl
def wantF (g : Option (Nat × Bool)) : Array Oper → Env → Bool := Option.rec (motive := fun _ => Array Oper → Env → Bool) (fun _ _ => true) (fun p ops a => guardF ops a p) g
theorem wantF_eq (o : Oper) (ops : Array Oper) (a : Env) : wantF o.guard ops a = wantedE o ops a := by
  unfold wantedE wantF
  cases o.guard with
  | none => rfl
  | some p => exact guardF_eq ops a p
def thenF (r : AOut) (k : Env → AH → AOut) : AOut := Option.rec (motive := fun _ => AOut) none (fun p => Prod.rec (motive := fun _ => AOut) (fun e q => Prod.rec (motive := fun _ => AOut) (fun a h =>
  Exit.rec (motive := fun _ => AOut) (k a h) (fun i => some (.exit i, a, h)) (fun l => some (.goto l, a, h)) (some (.ret, a, h)) (fun c => some (.panic c, a, h)) (some (.outgrown, a, h)) e) q) p) r
theorem thenF_eq (r : AOut) (k : Env → AH → AOut) : thenF r k = match r with
    | some (.normal, a, h) => k a h
    | r => r := by
  cases r with
  | none => rfl
  | some p =>
    obtain ⟨e, a, h⟩ := p
    cases e <;> rfl
/-! ### values -/
def intOf : Value → Option (IntKind × Int)
  | .int k i => some (k, i)
  | _ => none
def strOf : Value → Option ByteArray
  | .string s => some s
  | _ => none
def ptrOf : Value → Option Addr
  | .pointer p => p
  | _ => none
theorem boolOf_some {v : Value} {b : Bool} (h : boolOf v = some b) : v = .bool b := by cases v <;> simp [boolOf] at h; rw [h]
theorem intOf_some {v : Value} {k : IntKind} {i : Int} (h : intOf v = some (k, i)) : v = .int k i := by cases v <;> simp [intOf] at h; rw [h.1, h.2]
theorem strOf_some {v : Value} {s : ByteArray} (h : strOf v = some s) : v = .string s := by cases v <;> simp [strOf] at h; rw [h]
theorem ptrOf_some {v : Value} {p : Addr} (h : ptrOf v = some p) : v = .pointer (some p) := by cases v <;> simp [ptrOf] at h; rw [h]
/-- A value, or the longer way. -/
def valF (r : Option Value) (o : Oper) (P : Program) (call : ACall) (a : Env) (h : AH) : AOut := Option.rec (motive := fun _ => AOut) (aop P call o a h) (fun v => some (.normal, putF o.dst a v, h)) r
theorem valF_eq {r : Option Value} {o : Oper} {P : Program} {call : ACall} {a : Env} {h : AH} (hr : ∀ v, r = some v → aop P call o a h = some (.normal, a.put o.dst v, h)) : valF r o P call a h = aop P call o a h := by
  cases r with
  | none => rfl
  | some v =>
    rw [hr v rfl]
    show some (Exit.normal, putF o.dst a v, h) = _
    rw [putF_eq]
/-! ### whole numbers -/
def intEq (i j : Int) : Bool := Int.rec (motive := fun _ => Bool) (fun m => Int.rec (motive := fun _ => Bool) (fun n => Nat.beq m n) (fun _ => false) j) (fun m => Int.rec (motive := fun _ => Bool) (fun _ => false) (fun n => Nat.beq m n) j) i
def intLt (i j : Int) : Bool := Int.rec (motive := fun _ => Bool) (fun m => Int.rec (motive := fun _ => Bool) (fun n => Nat.ble (Nat.succ m) n) (fun _ => false) j) (fun m => Int.rec (motive := fun _ => Bool) (fun _ => true) (fun n => Nat.ble (Nat.succ n) m) j) i
theorem intEq_eq (i j : Int) : intEq i j = decide (i = j) := by
  cases i with
  | ofNat m => cases j with
    | ofNat n =>
      show Nat.beq m n = _
      rw [Bool.eq_iff_iff, Nat.beq_eq, decide_eq_true_eq]
      exact ⟨fun h => by rw [h], fun h => by injection h⟩
    | negSucc n => rfl
  | negSucc m => cases j with
    | ofNat n => rfl
    | negSucc n =>
      show Nat.beq m n = _
      rw [Bool.eq_iff_iff, Nat.beq_eq, decide_eq_true_eq]
      exact ⟨fun h => by rw [h], fun h => by injection h⟩
theorem intLt_eq (i j : Int) : intLt i j = decide (i < j) := by
  cases i with
  | ofNat m => cases j with
    | ofNat n =>
      show Nat.ble (Nat.succ m) n = _
      rw [Bool.eq_iff_iff, Nat.ble_eq, decide_eq_true_eq]
      simp only [Int.ofNat_eq_natCast]
      omega
    | negSucc n =>
      show false = _
      rw [eq_comm, decide_eq_false_iff_not]
      simp only [Int.ofNat_eq_natCast]
      omega
  | negSucc m => cases j with
    | ofNat n =>
      show true = _
      rw [eq_comm, decide_eq_true_eq]
      simp only [Int.ofNat_eq_natCast]
      omega
    | negSucc n =>
      show Nat.ble (Nat.succ n) m = _
      rw [Bool.eq_iff_iff, Nat.ble_eq, decide_eq_true_eq]
      omega
def small (i : Int) : Bool := Int.rec (motive := fun _ => Bool) (fun m => Nat.ble m 9223372036854775807) (fun m => Nat.ble m 9223372036854775807) i
theorem small_wrap {i : Int} (h : small i = true) : IntKind.wrap .i64 i = i := by
  have h2 : -9223372036854775808 ≤ i ∧ i < 9223372036854775808 := by
    cases i with
    | ofNat m =>
      have h : Nat.ble m 9223372036854775807 = true := h
      rw [Nat.ble_eq] at h
      simp only [Int.ofNat_eq_natCast]
      omega
    | negSucc m =>
      have h : Nat.ble m 9223372036854775807 = true := h
      rw [Nat.ble_eq] at h
      omega
  exact IntWalk.i64_in i ⟨h2.1, by omega⟩
def cmpF : BinOp → Int → Int → Option Bool
  | .eql => fun i j => some (intEq i j)
  | .neq => fun i j => some (!intEq i j)
  | .lss => fun i j => some (intLt i j)
  | .leq => fun i j => some (!intLt j i)
  | .gtr => fun i j => some (intLt j i)
  | .geq => fun i j => some (!intLt i j)
  | _ => fun _ _ => none
def arithF : BinOp → Int → Int → Option Int
  | .add => fun i j => some (Int.add i j)
  | .sub => fun i j => some (Int.sub i j)
  | _ => fun _ _ => none
def kindF : IntKind → IntKind → Bool
  | .i64 => fun l => match l with
    | .i64 => true
    | _ => false
  | .u8 => fun l => match l with
    | .u8 => true
    | _ => false
  | _ => fun _ => false
theorem kindF_eq {k l : IntKind} (h : kindF k l = true) : k = l := by cases k <;> cases l <;> first | rfl | (simp [kindF] at h)
def wideF : IntKind → Bool
  | .i64 => true
  | _ => false
def smallV (i : Int) : Option Value := Bool.rec (motive := fun _ => Option Value) none (some (.int .i64 i)) (small i)
def intBin (op : BinOp) (k : IntKind) (i j : Int) : Option Value := Option.rec (motive := fun _ => Option Value)
  (Bool.rec (motive := fun _ => Option Value) none (Option.rec (motive := fun _ => Option Value) none smallV (arithF op i j)) (wideF k)) (fun b => some (.bool b)) (cmpF op i j)
/-! ### strings -/
def byteEq (a b : UInt8) : Bool := Nat.beq a.toNat b.toNat
def bytesEq (x : List UInt8) : List UInt8 → Bool := List.rec (motive := fun _ => List UInt8 → Bool) (fun y => List.rec (motive := fun _ => Bool) true (fun _ _ _ => false) y)
  (fun a _ ih y => List.rec (motive := fun _ => Bool) false (fun b y _ => Bool.rec (motive := fun _ => Bool) false (ih y) (byteEq a b)) y) x
theorem bytesEq_eq : ∀ (x y : List UInt8), bytesEq x y = decide (x = y) := by
  intro x
  induction x with
  | nil => intro y; cases y <;> rfl
  | cons a x ih =>
    intro y
    cases y with
    | nil => rfl
    | cons b y =>
      show Bool.rec (motive := fun _ => Bool) false (bytesEq x y) (byteEq a b) = _
      cases hb : byteEq a b with
      | false =>
        show false = _
        rw [eq_comm, decide_eq_false_iff_not]
        intro e
        injection e with e1 e2
        subst e1
        unfold byteEq at hb
        rw [Nat.beq_refl] at hb
        cases hb
      | true =>
        show bytesEq x y = _
        unfold byteEq at hb
        rw [Nat.beq_eq] at hb
        have hab : a = b := UInt8.toNat_inj.1 hb
        subst hab
        rw [ih y]
        simp
def strEq (s t : ByteArray) : Bool := ByteArray.rec (motive := fun _ => Bool) (fun x => Array.rec (motive := fun _ => Bool) (fun x => ByteArray.rec (motive := fun _ => Bool) (fun y => Array.rec (motive := fun _ => Bool) (fun y => bytesEq x y) y) t) x) s
theorem strEq_eq (s t : ByteArray) : strEq s t = decide (s = t) := by
  obtain ⟨⟨x⟩⟩ := s
  obtain ⟨⟨y⟩⟩ := t
  show bytesEq x y = _
  rw [bytesEq_eq]
  simp
end
end Go.Proofs.YtiffnkmbmenhfaaDoor.Run
/-! The same, quicker: operations. -/
namespace Go.Proofs.YtiffnkmbmenhfaaDoor.Run
open Go Go.RowKit
set_option linter.unusedVariables false
set_option linter.unusedSimpArgs false
noncomputable section

theorem prun_bind {α β : Type} (P : Program) (s : Sem α) (f : α → Sem β) : prun P (s >>= f) = match prun P s with
    | some a => prun P (f a)
    | none => none := by
  show prun P (s.bind f) = _
  induction s with
  | pure a => rfl
  | program k ih => exact ih P
  | mark m k ih => exact ih
  | _ => rfl
theorem brun_bind {α β : Type} (P : Program) (s : Sem α) (f : α → Sem β) (h : AH) : brun P (s >>= f) h = match brun P s h with
    | some a => brun P (f a) h
    | none => none := by
  show brun P (s.bind f) h = _
  induction s with
  | pure a => rfl
  | load m a k ih =>
    simp only [Sem.bind, brun]
    cases h.cell a with
    | none => rfl
    | some v => exact ih v
  | getObj r k ih =>
    simp only [Sem.bind, brun]
    cases h.get r with
    | none => rfl
    | some x => cases x with
      | obj o => exact ih o
      | _ => rfl
  | program k ih => exact ih P
  | mark m k ih => exact ih
  | _ => rfl
theorem arun_bind' {α β : Type} (P : Program) (s : Sem α) (f : α → Sem β) (h : AH) : arun P (s >>= f) h = match arun P s h with
    | some (a, h') => arun P (f a) h'
    | none => none := arun_bind P s f h
theorem brun_underlying {P : Program} {t : TypeId} {d : TypeDesc} (hu : P.underlying t = some d) (h : AH) : brun P (underlying t) h = some d := by
  simp [underlying, Bind.bind, program, Sem.bind, brun, hu, Pure.pure]
theorem brun_typeInfo {P : Program} {t : TypeId} {i : TypeInfo} (hi : P.info? t = some i) (h : AH) : brun P (typeInfo t) h = some i := by
  simp [typeInfo, Bind.bind, program, Sem.bind, brun, hi, Pure.pure]
theorem brun_sizeOf {P : Program} {t : TypeId} {i : TypeInfo} (hi : P.info? t = some i) (h : AH) : brun P (sizeOf t) h = some i.size := by
  unfold sizeOf
  rw [brun_bind, brun_typeInfo hi]
  rfl
theorem arun_sizeOf {P : Program} {t : TypeId} {i : TypeInfo} (hi : P.info? t = some i) (h : AH) : arun P (sizeOf t) h = some (i.size, h) := brun_arun P _ h _ (brun_sizeOf hi h)
section
variable {P : Program} {call : ACall} {o : Oper} {a : Env} {h : AH}
theorem gop_some {r : Value} (hall : ∀ x ∈ o.op.operands, ground 8 (a.eval x) = true) (hp : prun P (execOp a.eval o) = some (.value r)) (hr : ground 8 r = true) : gop P o a h = some (.normal, a.put o.dst r, h) := by
  unfold gop
  have e : (o.op.operands.toList.all fun x => ground 8 (a.eval x)) = true := by
    rw [List.all_eq_true]
    exact fun x hx => hall x (by simpa using hx)
  rw [e]
  simp only [hp, hr]
  rfl
theorem binop_some {op : BinOp} {t : TypeId} {x y : Operand} {n : TypeId} {v w r : Value} (ho : o.op = .binOp op t x y n) (hx : a.eval x = v) (hy : a.eval y = w) (gv : ground 8 v = true) (gw : ground 8 w = true) (hn : nilCmp P t v w = none)
    (he : prun P (eqGuard op t x y v w) = some ()) (hb : prun P (binOp op t v w) = some r) (hr : ground 8 r = true) : aop P call o a h = some (.normal, a.put o.dst r, h) := by
  unfold aop
  simp only [ho, hx, hy, hn]
  refine gop_some (fun z hz => ?_) ?_ hr
  · rw [ho] at hz
    simp only [Op.operands, List.mem_toArray, List.mem_cons, List.not_mem_nil, or_false] at hz
    rcases hz with rfl | rfl
    · rw [hx]; exact gv
    · rw [hy]; exact gw
  · simp only [execOp, ho, hx, hy]
    rw [prun_bind, prun_bind, he]
    simp only [hb]
    rfl
theorem nilCmp_int (t : TypeId) (k l : IntKind) (i j : Int) : nilCmp P t (.int k i) (.int l j) = none := by
  unfold nilCmp
  split <;> first | rfl | (rename_i h1 h2; cases h1)
theorem nilCmp_str (t : TypeId) (s u : ByteArray) : nilCmp P t (.string s) (.string u) = none := by
  unfold nilCmp
  split <;> first | rfl | (rename_i h1 h2; cases h1)
theorem eqGuard_int (op : BinOp) (t : TypeId) (x y : Operand) (k l : IntKind) (i j : Int) : prun P (eqGuard op t x y (.int k i) (.int l j)) = some () := by cases op <;> rfl
theorem eqGuard_str (op : BinOp) (t : TypeId) (x y : Operand) (s u : ByteArray) : prun P (eqGuard op t x y (.string s) (.string u)) = some () := by cases op <;> rfl
theorem cmpF_ok {op : BinOp} {t : TypeId} {k : IntKind} {i j : Int} {b : Bool} (hb : cmpF op i j = some b) : prun P (binOp op t (.int k i) (.int k j)) = some (.bool b) := by
  have h1 : decide (i ≤ j) = !decide (j < i) := by rw [Bool.eq_iff_iff]; simp
  have h2 : decide (i ≥ j) = !decide (i < j) := by rw [Bool.eq_iff_iff]; simp
  cases op with
  | eql => injection hb with hb; subst hb; rw [show binOp .eql t (.int k i) (.int k j) = Op.intCmp .eql i j by simp [binOp]]; show some (Value.bool (i == j)) = _; rw [intEq_eq]; rfl
  | neq => injection hb with hb; subst hb; rw [show binOp .neq t (.int k i) (.int k j) = Op.intCmp .neq i j by simp [binOp]]; show some (Value.bool (i != j)) = _; rw [intEq_eq]; rfl
  | lss => injection hb with hb; subst hb; rw [show binOp .lss t (.int k i) (.int k j) = Op.intCmp .lss i j by simp [binOp]]; show some (Value.bool (decide (i < j))) = _; rw [intLt_eq]
  | leq => injection hb with hb; subst hb; rw [show binOp .leq t (.int k i) (.int k j) = Op.intCmp .leq i j by simp [binOp]]; show some (Value.bool (decide (i ≤ j))) = _; rw [intLt_eq, h1]
  | gtr => injection hb with hb; subst hb; rw [show binOp .gtr t (.int k i) (.int k j) = Op.intCmp .gtr i j by simp [binOp]]; show some (Value.bool (decide (i > j))) = _; rw [intLt_eq]
  | geq => injection hb with hb; subst hb; rw [show binOp .geq t (.int k i) (.int k j) = Op.intCmp .geq i j by simp [binOp]]; show some (Value.bool (decide (i ≥ j))) = _; rw [intLt_eq, h2]
  | _ => cases hb
theorem arithF_ok {op : BinOp} {t : TypeId} {i j r : Int} (hr : arithF op i j = some r) (hs : small r = true) : prun P (binOp op t (.int .i64 i) (.int .i64 j)) = some (.int .i64 r) := by
  have hw := small_wrap hs
  cases op with
  | add =>
    injection hr with hr
    subst hr
    show some (Value.int .i64 (IntKind.wrap .i64 (Int.add i j))) = _
    rw [hw]
  | sub =>
    injection hr with hr
    subst hr
    show some (Value.int .i64 (IntKind.wrap .i64 (Int.sub i j))) = _
    rw [hw]
  | _ => cases hr
/-! ### two operands -/
def strBin : BinOp → ByteArray → ByteArray → Option Value
  | .eql => fun s u => some (.bool (strEq s u))
  | .neq => fun s u => some (.bool (!strEq s u))
  | _ => fun _ _ => none
def binF (op : BinOp) (v w : Value) : Option Value :=
  match intOf v with
  | some (k, i) => match intOf w with
    | some (l, j) => match kindF k l with
      | true => intBin op k i j
      | false => none
    | none => none
  | none => match strOf v with
    | some s => match strOf w with
      | some u => strBin op s u
      | none => none
    | none => none
theorem binF_ok {op : BinOp} {t : TypeId} {x y : Operand} {n : TypeId} {r : Value} (ho : o.op = .binOp op t x y n) (hr : binF op (evalF x a) (evalF y a) = some r) : aop P call o a h = some (.normal, a.put o.dst r, h) := by
  rw [evalF_eq, evalF_eq] at hr
  unfold binF at hr
  split at hr
  · rename_i k i hx
    split at hr
    · rename_i l j hy
      split at hr
      · rename_i hk
        have hx := intOf_some hx
        have hy := intOf_some hy
        have hk := kindF_eq hk
        subst hk
        unfold intBin at hr
        cases hc : cmpF op i j with
        | some b =>
          rw [hc] at hr
          have hr : some (Value.bool b) = some r := hr
          injection hr with hr
          subst hr
          exact binop_some ho hx hy rfl rfl (nilCmp_int _ _ _ _ _) (eqGuard_int _ _ _ _ _ _ _ _) (cmpF_ok hc) rfl
        | none =>
          rw [hc] at hr
          have hr : Bool.rec (motive := fun _ => Option Value) none (Option.rec (motive := fun _ => Option Value) none smallV (arithF op i j)) (wideF k) = some r := hr
          cases hw : wideF k with
          | false => rw [hw] at hr; cases hr
          | true =>
            rw [hw] at hr
            have hk : k = .i64 := by cases k <;> simp [wideF] at hw; rfl
            subst hk
            cases har : arithF op i j with
            | none => rw [har] at hr; cases hr
            | some q =>
              rw [har] at hr
              have hr : smallV q = some r := hr
              unfold smallV at hr
              cases hs : small q with
              | false => rw [hs] at hr; cases hr
              | true =>
                rw [hs] at hr
                have hr : some (Value.int .i64 q) = some r := hr
                injection hr with hr
                subst hr
                exact binop_some ho hx hy rfl rfl (nilCmp_int _ _ _ _ _) (eqGuard_int _ _ _ _ _ _ _ _) (arithF_ok har hs) rfl
      · cases hr
    · cases hr
  · split at hr
    · rename_i s hx
      split at hr
      · rename_i u hy
        have hx := strOf_some hx
        have hy := strOf_some hy
        have key : (s.toList == u.toList) = strEq s u := by
          rw [strEq_eq, ByteArray.toList_eq, ByteArray.toList_eq]
          rw [Bool.eq_iff_iff]
          simp only [beq_iff_eq, decide_eq_true_eq]
          constructor
          · intro e
            obtain ⟨⟨p⟩⟩ := s
            obtain ⟨⟨q⟩⟩ := u
            simp only at e
            rw [e]
          · intro e; rw [e]
        cases op <;> simp [strBin] at hr <;> subst hr
        · refine binop_some ho hx hy rfl rfl (nilCmp_str _ _ _) (eqGuard_str _ _ _ _ _ _) ?_ rfl
          show some (Value.bool (s.toList == u.toList)) = _
          rw [key]
        · refine binop_some ho hx hy rfl rfl (nilCmp_str _ _ _) (eqGuard_str _ _ _ _ _ _) ?_ rfl
          show some (Value.bool (!(s.toList == u.toList))) = _
          rw [key]
      · cases hr
    · cases hr
/-! ### memory -/
theorem generic_read {r : Value} (hok : opOk P o.op = true) (hh : heapOp o.op = false) (hb : brun P (execOp a.eval o) h = some (.value r)) : generic P o a h = some (.normal, a.put o.dst r, h) := by
  unfold generic
  simp only [hok, hh, hb]
def plainTy (P : Program) (t : TypeId) : Bool :=
  match P.underlying t with
  | some (.struct _) => false
  | some (.array _ _) => false
  | some _ => true
  | none => false
theorem brun_isAgg {t : TypeId} (ht : plainTy P t = true) : brun P (isAgg t) h = some false := by
  unfold plainTy at ht
  cases hu : P.underlying t with
  | none => rw [hu] at ht; cases ht
  | some d =>
    rw [hu] at ht
    unfold isAgg
    rw [brun_bind, brun_underlying hu]
    cases d <;> first | rfl | (cases ht)
def loadF (P : Program) (t : TypeId) (v : Value) (h : AH) : Option Value :=
  match plainTy P t with
  | true => match ptrOf v with
    | some p => h.cell p
    | none => none
  | false => none
theorem loadF_ok {t : TypeId} {x : Operand} {r : Value} (ho : o.op = .load t x) (hr : loadF P t (evalF x a) h = some r) : aop P call o a h = some (.normal, a.put o.dst r, h) := by
  rw [evalF_eq] at hr
  unfold loadF at hr
  split at hr
  · rename_i ht
    split at hr
    · rename_i p hp
      have hp := ptrOf_some hp
      unfold aop
      simp only [ho]
      refine generic_read (by rw [ho]; rfl) (by rw [ho]; rfl) ?_
      simp only [execOp, ho, hp, Instr.loadAt, Instr.sureAddr]
      rw [brun_bind, brun_bind]
      have e1 : brun P (Pure.pure p : Sem Addr) h = some p := rfl
      simp only [e1]
      unfold loadVar
      rw [brun_bind, brun_isAgg ht]
      have e2 : brun P (Go.load p) h = some r := by
        simp only [Go.load, brun, hr]
      simp only [Bool.false_eq_true, if_false, e2]
      rfl
    · cases hr
  · cases hr
def fieldOff (P : Program) (s : TypeId) (f : Nat) : Option Nat :=
  match P.underlying s with
  | some (.struct fields) => match fields[f]? with
    | some x => match P.info? x.type with
      | some i => match i.size with
        | 0 => none
        | _ => some x.offset
      | none => none
    | none => none
  | _ => none
def fieldF (P : Program) (s : TypeId) (v : Value) (f : Nat) : Option Value :=
  match fieldOff P s f with
  | some off => match ptrOf v with
    | some p => some (.pointer (some (p.add off)))
    | none => none
  | none => none
theorem fieldF_ok {s : TypeId} {x : Operand} {f : Nat} {r : Value} (ho : o.op = .fieldAddr s x f) (hr : fieldF P s (evalF x a) f = some r) : aop P call o a h = some (.normal, a.put o.dst r, h) := by
  rw [evalF_eq] at hr
  unfold fieldF at hr
  split at hr
  · rename_i off hoff
    split at hr
    · rename_i p hp
      have hp := ptrOf_some hp
      injection hr with hr
      subst hr
      unfold fieldOff at hoff
      split at hoff
      · rename_i fields hu
        split at hoff
        · rename_i fx hfx
          split at hoff
          · rename_i i hi
            split at hoff
            · cases hoff
            · rename_i hsz
              injection hoff with hoff
              subst hoff
              unfold aop
              simp only [ho]
              refine generic_read (by rw [ho]; rfl) (by rw [ho]; rfl) ?_
              simp only [execOp, ho, hp, Instr.fieldAt]
              rw [brun_bind, brun_bind, brun_underlying hu]
              simp only [hfx, Instr.sureAddr]
              rw [brun_bind]
              have e1 : brun P (Pure.pure p : Sem Addr) h = some p := rfl
              simp only [e1]
              unfold fieldPlace
              rw [brun_bind, brun_bind, brun_sizeOf hi]
              have hne : ¬ i.size = 0 := fun e => hsz e
              simp only [if_neg hne]
              rfl
          · cases hoff
        · cases hoff
      · cases hoff
    · cases hr
  · cases hr
end
end
end Go.Proofs.YtiffnkmbmenhfaaDoor.Run
/-! The same, quicker: parts of strings, cells, new rows. -/
namespace Go.Proofs.YtiffnkmbmenhfaaDoor.Run
open Go Go.RowKit
set_option linter.unusedVariables false
set_option linter.unusedSimpArgs false
noncomputable section

def dropF {β : Type} (n : Nat) : List β → List β := Nat.rec (motive := fun _ => List β → List β) (fun l => l) (fun _ ih l => List.rec (motive := fun _ => List β) [] (fun _ t _ => ih t) l) n
def takeF {β : Type} (n : Nat) : List β → List β := Nat.rec (motive := fun _ => List β → List β) (fun _ => []) (fun _ ih l => List.rec (motive := fun _ => List β) [] (fun b t _ => b :: ih t) l) n
theorem dropF_eq {β : Type} : ∀ (n : Nat) (l : List β), dropF n l = l.drop n := by
  intro n
  induction n with
  | zero => intro l; rfl
  | succ n ih =>
    intro l
    cases l with
    | nil => rfl
    | cons b t => exact ih t
theorem takeF_eq {β : Type} : ∀ (n : Nat) (l : List β), takeF n l = l.take n := by
  intro n
  induction n with
  | zero => intro l; rfl
  | succ n ih =>
    intro l
    cases l with
    | nil => rfl
    | cons b t => exact congrArg (b :: ·) (ih t)
def natOf (i : Int) : Option Nat := Int.rec (motive := fun _ => Option Nat) (fun m => some m) (fun _ => none) i
theorem natOf_some {i : Int} {n : Nat} (h : natOf i = some n) : i = Int.ofNat n := by
  cases i with
  | ofNat m => have h : some m = some n := h; injection h with h; rw [h]
  | negSucc m => cases h
def strTy (P : Program) (t : TypeId) : Bool :=
  match P.underlying t with
  | some .string => true
  | _ => false
theorem strTy_eq {P : Program} {t : TypeId} (h : strTy P t = true) : P.underlying t = some .string := by
  unfold strTy at h
  split at h
  · assumption
  · cases h
def lenStr (s : ByteArray) : Nat := ByteArray.rec (motive := fun _ => Nat) (fun x => Array.rec (motive := fun _ => Nat) (fun l => List.rec (motive := fun _ => Nat) 0 (fun _ _ n => Nat.succ n) l) x) s
theorem lenStr_eq (s : ByteArray) : lenStr s = s.size := by
  obtain ⟨⟨l⟩⟩ := s
  show List.rec (motive := fun _ => Nat) 0 (fun _ _ n => Nat.succ n) l = l.length
  induction l with
  | nil => rfl
  | cons b l ih => exact congrArg Nat.succ ih
def strPart (s : ByteArray) (l h : Nat) : ByteArray := ByteArray.rec (motive := fun _ => ByteArray) (fun x => Array.rec (motive := fun _ => ByteArray) (fun y => ⟨⟨takeF (h - l) (dropF l y)⟩⟩) x) s
theorem strPart_eq (s : ByteArray) (l h : Nat) : strPart s l h = s.extract l h := by
  obtain ⟨⟨y⟩⟩ := s
  rw [show (⟨⟨y⟩⟩ : ByteArray).extract l h = ByteArray.mk ((y.drop l).take (h - l)).toArray from ByteArray.extract_mk y l h]
  show (⟨⟨takeF (h - l) (dropF l y)⟩⟩ : ByteArray) = _
  rw [takeF_eq, dropF_eq]
def boundF (x : Option Operand) (d : Nat) (a : Env) : Option Nat :=
  match x with
  | none => some d
  | some y => match intOf (evalF y a) with
    | some (_, i) => natOf i
    | none => none
def leF (l h n : Nat) : Bool := Bool.rec (motive := fun _ => Bool) false (Nat.ble h n) (Nat.ble l h)
def partF (P : Program) (t : TypeId) (v : Value) (lo hi : Option Operand) (a : Env) : Option Value :=
  match strOf v with
  | some s => match strTy P t with
    | true => match boundF hi (lenStr s) a with
      | some h => match boundF lo 0 a with
        | some l => match leF l h (lenStr s) with
          | true => some (.string (strPart s l h))
          | false => none
        | none => none
      | none => none
    | false => none
  | none => none
section
variable {P : Program} {call : ACall} {o : Oper} {a : Env} {h : AH}
theorem prun_bound {k : IntKind} {n y : Nat} {code : BoundsCode} (h : n ≤ y) : prun P (Instr.sliceBound (.int k (Int.ofNat n)) y code) = some n := by
  unfold Instr.sliceBound
  rw [prun_bind]
  have e : prun P (asIntOf (Value.int k (Int.ofNat n))) = some (k, Int.ofNat n) := rfl
  rw [e]
  have hc : (0 : Int) ≤ Int.ofNat n ∧ Int.ofNat n ≤ (y : Int) := ⟨Int.natCast_nonneg n, by simp only [Int.ofNat_eq_natCast]; omega⟩
  simp only [if_pos hc]
  rfl
theorem boundF_val {x : Option Operand} {d n : Nat} (h : boundF x d a = some n) : (x = none ∧ n = d) ∨ ∃ y k, x = some y ∧ a.eval y = .int k (Int.ofNat n) := by
  unfold boundF at h
  cases x with
  | none => injection h with h; exact .inl ⟨rfl, h.symm⟩
  | some y =>
    simp only at h
    split at h
    · rename_i k i hi
      have hi := intOf_some hi
      rw [evalF_eq] at hi
      exact .inr ⟨y, k, rfl, by rw [hi, natOf_some h]⟩
    · cases h
theorem partF_ok {t : TypeId} {x : Operand} {lo hi : Option Operand} {r : Value} (ho : o.op = .slice t x lo hi none) (hr : partF P t (evalF x a) lo hi a = some r) : aop P call o a h = some (.normal, a.put o.dst r, h) := by
  unfold partF at hr
  split at hr
  · rename_i s hs
    have hs := strOf_some hs
    rw [evalF_eq] at hs
    split at hr
    · rename_i ht
      have hu := strTy_eq ht
      split at hr
      · rename_i hh hhb
        split at hr
        · rename_i ll hlb
          split at hr
          · rename_i hle
            injection hr with hr
            subst hr
            rw [lenStr_eq] at hhb hle
            have h1 : ll ≤ hh ∧ hh ≤ s.size := by
              unfold leF at hle
              cases hx : Nat.ble ll hh with
              | false => rw [hx] at hle; cases hle
              | true =>
                rw [hx] at hle
                have hle : Nat.ble hh s.size = true := hle
                rw [Nat.ble_eq] at hx hle
                exact ⟨hx, hle⟩
            unfold aop
            simp only [ho, hs]
            have glo : ∀ y, lo = some y → ground 8 (a.eval y) = true := by
              intro y hy
              rcases boundF_val hlb with ⟨e, _⟩ | ⟨y', k, e, e2⟩
              · rw [e] at hy; cases hy
              · rw [e] at hy; injection hy with hy; subst hy; rw [e2]; rfl
            have ghi : ∀ y, hi = some y → ground 8 (a.eval y) = true := by
              intro y hy
              rcases boundF_val hhb with ⟨e, _⟩ | ⟨y', k, e, e2⟩
              · rw [e] at hy; cases hy
              · rw [e] at hy; injection hy with hy; subst hy; rw [e2]; rfl
            refine gop_some (fun z hz => ?_) ?_ rfl
            · rw [ho] at hz
              simp only [Op.operands, Option.toArray_none, Array.append_empty, Array.mem_append, List.mem_toArray, List.mem_cons, List.not_mem_nil, or_false, Option.mem_toArray] at hz
              rcases hz with (rfl | hz) | hz
              · rw [hs]; rfl
              · exact glo z hz
              · exact ghi z hz
            · simp only [execOp, ho, hs, Option.map_none]
              have hund : prun P (underlying t) = some TypeDesc.string := by simp [underlying, Bind.bind, program, Sem.bind, prun, hu, Pure.pure]
              have hbo : prun P (Instr.sliceBounds false s.size s.size (lo.map a.eval) (hi.map a.eval) none) = some (ll, hh, s.size) := by
                unfold Instr.sliceBounds
                simp only [pure_bind]
                rcases boundF_val hhb with ⟨e, e1⟩ | ⟨y, k, e, e2⟩
                · subst e e1
                  simp only [Option.map_none, pure_bind]
                  rcases boundF_val hlb with ⟨e, e1⟩ | ⟨y', k', e, e3⟩
                  · subst e e1
                    simp only [Option.map_none, pure_bind]
                    rfl
                  · subst e
                    simp only [Option.map_some, e3, Option.isSome_none]
                    rw [prun_bind, prun_bound h1.1]
                    rfl
                · subst e
                  simp only [Option.map_some, e2]
                  rw [prun_bind]
                  simp only [Bool.false_eq_true, if_false]
                  rw [prun_bound h1.2]
                  rcases boundF_val hlb with ⟨e, e1⟩ | ⟨y', k', e, e3⟩
                  · subst e e1
                    simp only [Option.map_none, pure_bind]
                    rfl
                  · subst e
                    simp only [Option.map_some, e3, Option.isSome_none]
                    rw [prun_bind, prun_bound h1.1]
                    rfl
              rw [prun_bind]
              have hsl : prun P (Instr.sliceAt t (.string s) (lo.map a.eval) (hi.map a.eval) none) = some (.string (s.extract ll hh)) := by
                unfold Instr.sliceAt
                rw [prun_bind, hund]
                simp only
                unfold Instr.slice
                rw [prun_bind, hund]
                simp only [Option.isSome_none, Bool.false_eq_true, if_false]
                rw [prun_bind, hbo]
                rfl
              rw [hsl, strPart_eq]
              rfl
          · cases hr
        · cases hr
      · cases hr
    · cases hr
  · cases hr
/-! ### cells -/
def rowCell (r : Row) : Nat → Option Value := Row.rec (motive := fun _ => Nat → Option Value) (fun cs n => nthV cs n) (fun cs n => nthV cs n) (fun _ _ => none) (fun _ => none) r
def cellF (h : AH) (p : Addr) : Option Value := Option.rec (motive := fun _ => Option Value) none (fun r => rowCell r p.off) (h.get p.block)
theorem cellF_eq (h : AH) (p : Addr) : cellF h p = h.cell p := by
  unfold cellF AH.cell
  cases h.get p.block with
  | none => rfl
  | some r =>
    show rowCell r p.off = _
    cases r with
    | ro cs => exact nthV_eq cs p.off
    | rw cs => exact nthV_eq cs p.off
    | obj o => rfl
    | dead => rfl
def rowList (r : Row) : Option (List Value) := Row.rec (motive := fun _ => Option (List Value)) (fun cs => some cs) (fun cs => some cs) (fun _ => none) none r
def rowF (h : AH) (b : Nat) : Option (List Value) := Option.rec (motive := fun _ => Option (List Value)) none rowList (h.get b)
def lenF' {β : Type} (l : List β) : Nat := List.rec (motive := fun _ => Nat) 0 (fun _ _ n => Nat.succ n) l
theorem lenF'_eq {β : Type} (l : List β) : lenF' l = l.length := by
  induction l with
  | nil => rfl
  | cons b l ih => exact congrArg Nat.succ ih
def aggTy (P : Program) (t : TypeId) : Option Nat :=
  match P.underlying t with
  | some (.struct _) => match P.info? t with
    | some i => some i.size
    | none => none
  | some (.array _ _) => match P.info? t with
    | some i => some i.size
    | none => none
  | _ => none
def fullF (cs : List Value) (n : Nat) : Option Value := Bool.rec (motive := fun _ => Option Value) none (some (.agg ⟨cs⟩)) (Nat.beq (lenF' cs) n)
def loadAggF (n : Nat) (p : Addr) (h : AH) : Option Value := Option.rec (motive := fun _ => Option Value) none (fun cs => fullF (takeF n (dropF p.off cs)) n) (rowF h p.block)
theorem rowF_cell {b : Nat} {cs : List Value} (hr : rowF h b = some cs) (p : Addr) (hp : p.block = b) : h.cell p = cs[p.off]? := by
  unfold rowF at hr
  unfold AH.cell
  rw [hp]
  cases hg : h.get b with
  | none => rw [hg] at hr; cases hr
  | some r =>
    rw [hg] at hr
    have hr : rowList r = some cs := hr
    cases r with
    | ro l => have hr : some l = some cs := hr; injection hr with hr; subst hr; rfl
    | rw l => have hr : some l = some cs := hr; injection hr with hr; subst hr; rfl
    | obj o => cases hr
    | dead => cases hr
theorem brun_loadCellsFrom {p : Addr} : ∀ (n i : Nat) (acc : Array Value) (cs : List Value), cs.length = n → (∀ j, j < n → h.cell (p.add (i + j)) = cs[j]?) → brun P (loadCellsFrom p i n acc) h = some (acc ++ cs.toArray) := by
  intro n
  induction n with
  | zero =>
    intro i acc cs hl _
    have : cs = [] := List.eq_nil_of_length_eq_zero hl
    subst this
    show some acc = _
    simp
  | succ n ih =>
    intro i acc cs hl hc
    match cs, hl with
    | c :: cs, hl =>
      have h0 := hc 0 (Nat.succ_pos _)
      simp only [Nat.add_zero, List.getElem?_cons_zero] at h0
      show brun P (Go.load (p.add i) >>= fun v => loadCellsFrom p (i + 1) n (acc.push v)) h = _
      rw [brun_bind]
      have e : brun P (Go.load (p.add i)) h = some c := by simp only [Go.load, brun, h0]
      rw [e]
      simp only
      rw [ih (i + 1) (acc.push c) cs (by simpa using hl) fun j hj => by
        have := hc (j + 1) (by omega)
        rw [List.getElem?_cons_succ] at this
        rw [← this]
        congr 2
        omega]
      congr 1
      apply Array.ext'
      simp
theorem loadAggF_ok {t : TypeId} {x : Operand} {n : Nat} {p : Addr} {r : Value} (ho : o.op = .load t x) (hn : aggTy P t = some n) (hp : a.eval x = .pointer (some p)) (hr : loadAggF n p h = some r) : aop P call o a h = some (.normal, a.put o.dst r, h) := by
  unfold loadAggF at hr
  cases hrow : rowF h p.block with
  | none => rw [hrow] at hr; cases hr
  | some cs =>
    rw [hrow] at hr
    have hr : fullF (takeF n (dropF p.off cs)) n = some r := hr
    unfold fullF at hr
    cases hl : Nat.beq (lenF' (takeF n (dropF p.off cs))) n with
    | false => rw [hl] at hr; cases hr
    | true =>
      rw [hl] at hr
      have hr : some (Value.agg ⟨takeF n (dropF p.off cs)⟩) = some r := hr
      injection hr with hr
      subst hr
      have hl := Nat.eq_of_beq_eq_true hl
      rw [lenF'_eq] at hl
      have hcells : ∀ j, j < n → h.cell (p.add (0 + j)) = (takeF n (dropF p.off cs))[j]? := by
        intro j hj
        have hb : (p.add (0 + j)).block = p.block := by unfold Addr.add; split <;> rfl
        have hof : (p.add (0 + j)).off = p.off + j := by
          unfold Addr.add
          split
          · rename_i h0; omega
          · simp only [Nat.zero_add]
        rw [rowF_cell hrow _ hb, hof, takeF_eq, dropF_eq, List.getElem?_take]
        rw [if_pos hj, List.getElem?_drop]
      have hi : ∃ i d, P.info? t = some i ∧ i.size = n ∧ P.underlying t = some d ∧ ((∃ f, d = .struct f) ∨ ∃ k e, d = .array k e) := by
        unfold aggTy at hn
        split at hn
        · rename_i f hu
          split at hn
          · rename_i i hi
            injection hn with hn
            exact ⟨i, _, hi, hn, hu, .inl ⟨f, rfl⟩⟩
          · cases hn
        · rename_i k e hu
          split at hn
          · rename_i i hi
            injection hn with hn
            exact ⟨i, _, hi, hn, hu, .inr ⟨k, e, rfl⟩⟩
          · cases hn
        · cases hn
      obtain ⟨i, d, hi, hsz, hu, hd⟩ := hi
      unfold aop
      simp only [ho]
      refine generic_read (by rw [ho]; rfl) (by rw [ho]; rfl) ?_
      simp only [execOp, ho, hp, Instr.loadAt, Instr.sureAddr]
      rw [brun_bind, brun_bind]
      have e1 : brun P (Pure.pure p : Sem Addr) h = some p := rfl
      simp only [e1]
      unfold loadVar
      have e2 : brun P (isAgg t) h = some true := by
        unfold isAgg
        rw [brun_bind, brun_underlying hu]
        rcases hd with ⟨f, rfl⟩ | ⟨k, e, rfl⟩ <;> rfl
      rw [brun_bind, e2]
      simp only [if_true]
      rw [brun_bind, brun_sizeOf hi]
      simp only
      rw [brun_bind]
      have e3 : brun P (loadCells p i.size) h = some (#[] ++ (takeF n (dropF p.off cs)).toArray) := by
        rw [hsz]
        exact brun_loadCellsFrom n 0 #[] _ hl hcells
      rw [e3]
      simp only [Array.empty_append]
      rfl
/-! ### new rows -/
def zeroF (P : Program) (t : TypeId) : Option (List Value) :=
  match zeroOk P t with
  | true => match P.info? t with
    | some i => match i.zero with
      | some z => some z.cells.toList
      | none => none
    | none => none
  | false => none
def newF (cs : List Value) (o : Oper) (a : Env) (h : AH) : AOut := AH.rec (motive := fun _ => AOut) (fun n r =>
  Bool.rec (motive := fun _ => AOut) none (some (.normal, putF o.dst a (.pointer (some ⟨n, 0, none⟩)), ⟨Nat.succ n, r.set 16 n (.rw cs)⟩)) (Nat.ble (Nat.succ n) 1000000000)) h
def allocF (t : TypeId) (o : Oper) (P : Program) (call : ACall) (a : Env) (h : AH) : AOut := Option.rec (motive := fun _ => AOut) (aop P call o a h) (fun cs => newF cs o a h) (zeroF P t)
def boxF (x : Operand) (o : Oper) (P : Program) (call : ACall) (a : Env) (h : AH) : AOut := newF (evalF x a).cells.toList o a h
theorem newF_eq (t : TypeId) (cs : Array Value) (hok : opOk P o.op = true) (hh : heapOp o.op = true) (he : ∀ h, arun P (execOp a.eval o) h = arun P (do Pure.pure (Next.value (← (newRow t cs >>= fun p => Pure.pure (Value.pointer (some p)))))) h) : newF cs.toList o a h = generic P o a h := by
  unfold generic
  rw [hok, hh]
  dsimp only
  rw [he]
  obtain ⟨n, r⟩ := h
  have e : arun P (do Pure.pure (Next.value (← (newRow t cs >>= fun p => Pure.pure (Value.pointer (some p)))))) ⟨n, r⟩ = arun P (Sem.new (.cells cs t) fun q => .pure (Next.value (Value.pointer (some ⟨q, 0, none⟩)))) ⟨n, r⟩ := rfl
  rw [e]
  simp only [arun]
  show Bool.rec (motive := fun _ => AOut) none (some (Exit.normal, putF o.dst a (.pointer (some ⟨n, 0, none⟩)), ⟨Nat.succ n, r.set 16 n (.rw cs.toList)⟩)) (Nat.ble (Nat.succ n) 1000000000) = _
  by_cases hl : n < AH.lim
  · have hb : Nat.ble (Nat.succ n) 1000000000 = true := by rw [Nat.ble_eq]; exact hl
    rw [hb, if_pos hl]
    simp only [putF_eq]
    rfl
  · have hb : Nat.ble (Nat.succ n) 1000000000 = false := by
      cases hx : Nat.ble (Nat.succ n) 1000000000 with
      | false => rfl
      | true => rw [Nat.ble_eq] at hx; exact absurd hx hl
    rw [hb, if_neg hl]
theorem allocF_eq {t : TypeId} (ho : o.op = .alloc t) : allocF t o P call a h = aop P call o a h := by
  unfold allocF
  cases hz : zeroF P t with
  | none => rfl
  | some cs =>
    unfold zeroF at hz
    split at hz
    · rename_i hzo
      split at hz
      · rename_i i hi
        split at hz
        · rename_i z hzz
          injection hz with hz
          subst hz
          show newF z.cells.toList o a h = _
          unfold aop
          simp only [ho]
          rw [newF_eq (P := P) t z.cells (by rw [ho]; exact hzo) (by rw [ho]; rfl) ?_]
          intro h
          simp only [execOp, ho]
          have e0 : brun P (zeroValue t) h = some z := by
            unfold zeroValue
            rw [brun_bind, brun_typeInfo hi]
            simp only [hzz]
            rfl
          have e1 : arun P (Instr.alloc t true (.tuple #[])) h = arun P (newRow t z.cells >>= fun p => Pure.pure (Value.pointer (some p))) h := by
            show arun P (zeroValue t >>= fun z => newRow t z.cells >>= fun p => Pure.pure (Value.pointer (some p))) h = _
            rw [arun_bind', brun_arun P _ _ _ e0]
          show arun P (Instr.alloc t true (.tuple #[]) >>= fun v => Pure.pure (Next.value v)) h = arun P ((newRow t z.cells >>= fun p => Pure.pure (Value.pointer (some p))) >>= fun v => Pure.pure (Next.value v)) h
          rw [arun_bind', arun_bind', e1]
        · cases hz
      · cases hz
    · cases hz
theorem boxF_eq {t : TypeId} {x : Operand} (ho : o.op = .box t x) : boxF x o P call a h = aop P call o a h := by
  unfold boxF
  rw [evalF_eq]
  unfold aop
  simp only [ho]
  exact newF_eq (P := P) t (a.eval x).cells (by rw [ho]; rfl) (by rw [ho]; rfl) (fun h => by simp only [execOp, ho]; rfl)
end
end
end Go.Proofs.YtiffnkmbmenhfaaDoor.Run
