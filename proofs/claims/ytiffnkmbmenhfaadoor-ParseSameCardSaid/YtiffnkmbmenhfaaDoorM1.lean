import GoSem.Step
import Derived.Calls
import Derived.Recover
import Derived.Laws.Sem
import Derived.WalkKit
import Derived.Below
/-! A closed call, run by computation: rows instead of blocks, each append a row of its own, regions in the text's order. Definitions. -/
namespace Go.Proofs.YtiffnkmbmenhfaaDoor.Run
open Go
set_option linter.unusedVariables false

/-! ### Memory -/
/-- A row: cells that are only read; cells; a map or the place of a range over a string; a row that an append has left behind. -/
inductive Row where
  | ro (cs : List Value)
  | rw (cs : List Value)
  | obj (o : Obj)
  | dead
  deriving Inhabited

inductive Tr (α : Type) where
  | leaf
  | node (v : Option α) (c0 c1 c2 c3 : Tr α)

/-- One of four. -/
noncomputable def four {β : Type} (x0 x1 x2 x3 : β) (m : Nat) : β := Bool.rec (motive := fun _ => β) (Bool.rec (motive := fun _ => β) x0 x1 (Nat.beq m 1)) (Bool.rec (motive := fun _ => β) x2 x3 (Nat.beq m 3)) (Nat.ble 2 m)
noncomputable def Tr.get {α : Type} (t : Tr α) : Nat → Option α :=
  Tr.rec (motive := fun _ => Nat → Option α) (fun _ => none) (fun v _ _ _ _ g0 g1 g2 g3 k => Nat.rec (motive := fun _ => Option α) v (fun j _ => Bool.rec (motive := fun _ => Nat → Option α) (Bool.rec (motive := fun _ => Nat → Option α) g0 g1 (Nat.beq (Nat.mod j 4) 1)) (Bool.rec (motive := fun _ => Nat → Option α) g2 g3 (Nat.beq (Nat.mod j 4) 3)) (Nat.ble 2 (Nat.mod j 4)) (Nat.div j 4)) k) t
abbrev SetF (α : Type) := (Tr α → Nat → α → Tr α) → Option α → Tr α → Tr α → Tr α → Tr α → Nat → α → Tr α
noncomputable def Tr.setK {α : Type} (s : Tr α → Nat → α → Tr α) (v : Option α) (c0 c1 c2 c3 : Tr α) (k : Nat) (x : α) : Tr α :=
  Nat.rec (motive := fun _ => Tr α) (.node (some x) c0 c1 c2 c3) (fun j _ => four (β := SetF α) (fun s v c0 c1 c2 c3 j x => .node v (s c0 j x) c1 c2 c3) (fun s v c0 c1 c2 c3 j x => .node v c0 (s c1 j x) c2 c3) (fun s v c0 c1 c2 c3 j x => .node v c0 c1 (s c2 j x) c3)
    (fun s v c0 c1 c2 c3 j x => .node v c0 c1 c2 (s c3 j x)) (Nat.mod j 4) s v c0 c1 c2 c3 (Nat.div j 4) x) k
noncomputable def Tr.set {α : Type} (n : Nat) : Tr α → Nat → α → Tr α :=
  Nat.rec (motive := fun _ => Tr α → Nat → α → Tr α) (fun t _ _ => t) (fun _ s t =>
    Tr.rec (motive := fun _ => (Tr α → Nat → α → Tr α) → Nat → α → Tr α) (fun s => Tr.setK s none .leaf .leaf .leaf .leaf) (fun v c0 c1 c2 c3 _ _ _ _ s => Tr.setK s v c0 c1 c2 c3) t s) n

noncomputable section
structure AH where
  next : Nat
  rows : Tr Row

def AH.get (h : AH) (k : Nat) : Option Row := h.rows.get k
def AH.put (h : AH) (k : Nat) (x : Row) : AH := match h with
  | ⟨n, r⟩ => ⟨n, r.set 16 k x⟩
def AH.push (h : AH) (x : Row) : AH := match h with
  | ⟨n, r⟩ => ⟨n + 1, r.set 16 n x⟩
def AH.lim : Nat := 1000000000

def AH.cell (h : AH) (a : Addr) : Option Value :=
  match h.get a.block with
  | some (.ro cs) => cs[a.off]?
  | some (.rw cs) => cs[a.off]?
  | _ => none
def AH.setCell (h : AH) (a : Addr) (v : Value) : Option AH :=
  match h.get a.block with
  | some (.rw cs) => if a.off < cs.length then some (h.put a.block (.rw (cs.set a.off v))) else none
  | _ => none

/-! ### What an operation means -/
def arun {α : Type} (P : Program) : Sem α → AH → Option (α × AH)
  | .pure a, h => some (a, h)
  | .load _ a k, h => match h.cell a with
    | some v => arun P (k v) h
    | none => none
  | .store _ a v k, h => match v with
    | .agg _ => none
    | .tuple _ => none
    | v => match h.setCell a v with
      | some h' => arun P k h'
      | none => none
  | .new o k, h => if h.next < AH.lim then
      match o with
      | .cells cs _ (0, 0) => arun P (k h.next) (h.push (.rw cs.toList))
      | .map es c => arun P (k h.next) (h.push (.obj (.map es c)))
      | .stringIter s p => arun P (k h.next) (h.push (.obj (.stringIter s p)))
      | _ => none
    else none
  | .getObj r k, h => match h.get r with
    | some (.obj o) => arun P (k o) h
    | _ => none
  | .setObj r o k, h => match h.get r with
    | some (.obj _) => match o with
      | .map es c => arun P k (h.put r (.obj (.map es c)))
      | .stringIter s p => arun P k (h.put r (.obj (.stringIter s p)))
      | _ => none
    | _ => none
  | .program k, h => arun P (k P) h
  | .mark _ k, h => arun P k h
  | _, _ => none

/-- The first cells of a slice. -/
def rowCells (h : AH) (a : Addr) (n : Nat) : Option (List Value) :=
  match h.get a.block with
  | some (.ro cs) => if a.off + n ≤ cs.length then some ((cs.drop a.off).take n) else none
  | some (.rw cs) => if a.off + n ≤ cs.length then some ((cs.drop a.off).take n) else none
  | _ => none
def sliceCells (h : AH) (base : Option Addr) (n : Nat) : Option (List Value) :=
  match base with
  | some a => if n = 0 then some [] else rowCells h a n
  | none => if n = 0 then some [] else none
/-- What is appended: how many elements, and their cells. -/
def srcCells (P : Program) (h : AH) (size : Nat) (u : TypeId) (x : Value) : Option (Nat × List Value) :=
  match P.underlying u, x with
  | some (.slice _), .slice base n _ => match sliceCells h base (n * size) with
    | some l => some (n, l)
    | none => none
  | some .string, .string s => if size = 1 then some (s.size, s.data.toList.map fun b => Value.int .u8 b.toNat) else none
  | _, _ => none
def setCells (h : AH) (a : Addr) : Nat → List Value → Option AH
  | _, [] => some h
  | i, v :: vs => match h.setCell (a.add i) v with
    | some h' => setCells h' a (i + 1) vs
    | none => none
/-- .. into room that is surely there; else into a row of its own: the old row is left behind where there may have been room. -/
def appendTo (h : AH) (size : Nat) (base : Option Addr) (len cap n : Nat) (news : List Value) : Option (Value × AH) :=
  if len + n ≤ cap then
    match base with
    | none => some (.slice none (len + n) cap, h)
    | some a => match setCells h (a.add (len * size)) 0 news with
      | some h' => some (.slice (some a) (len + n) cap, h')
      | none => none
  else if h.next < AH.lim then
    match sliceCells h base (len * size) with
    | none => none
    | some olds => match base with
      | none => some (.slice (some ⟨h.next, 0, some size⟩) (len + n) (len + n), h.push (.rw (olds ++ news)))
      | some a => match a.spot with
        | none => some (.slice (some ⟨h.next, 0, some size⟩) (len + n) (len + n), h.push (.rw (olds ++ news)))
        | some z => match h.get a.block with
          | some (.rw _) => if z = size then some (.slice (some ⟨h.next, 0, some size⟩) (len + n) (len + n), (h.put a.block .dead).push (.rw (olds ++ news))) else none
          | _ => none
  else none
/-- Elements of a type that appends may make. -/
def elemFine (P : Program) (t : TypeId) : Option (TypeId × Nat) :=
  match P.underlying t with
  | some (.slice e) => match P.info? e with
    | some i => match i.zero with
      | some z => if i.bytes ≤ 4096 ∧ 0 < i.size ∧ z.cells.size = i.size then some (e, i.size) else none
      | none => none
    | none => none
  | _ => none
def aappend (P : Program) (ts : Array TypeId) (s x : Value) (h : AH) : Option (Value × AH) :=
  match ts.toList, s with
  | [t, u], .slice base len cap => match elemFine P t with
    | some (_, size) => match srcCells P h size u x with
      | some (n, news) => if len + n ≤ 1000000 ∧ news.all (·.oneCell') = true then appendTo h size base len cap n news else none
      | none => none
    | none => none
  | _, _ => none

def bound (v : Option Value) (d m : Nat) : Option Nat :=
  match v with
  | none => some d
  | some (.int _ i) => if 0 ≤ i ∧ i ≤ m then some i.toNat else none
  | _ => none
def bounds (len cap : Nat) (lo hi mx : Option Value) : Option (Nat × Nat × Nat) :=
  match bound mx cap cap with
  | none => none
  | some m => match bound hi len m, (mx.isSome && hi.isNone) with
    | some h', false => match bound lo 0 h' with
      | none => none
      | some l => some (l, h', m)
    | _, _ => none
/-- A slice of a slice (its capacity is the least that it surely has) or of an array. -/
def aslice (P : Program) (t : TypeId) (x : Value) (lo hi mx : Option Value) : Option Value :=
  match P.underlying t, x with
  | some (.slice e), .slice a len cap =>
    match P.info? e, bounds len cap lo hi mx with
    | some i, some (l, h', m) =>
      match a with
      | none => some (.slice none (h' - l) (m - l))
      | some a => match a.spot with
        | none => some (.slice (some { block := a.block, off := if m = l then a.off else a.off + l * i.size, spot := none }) (h' - l) (m - l))
        | some z => if z = i.size ∧ z ≠ 0 then
            if mx.isSome = true ∨ m ≠ l ∨ l = 0 then
              some (.slice (some { block := a.block, off := if m = l then a.off else a.off + l * i.size, spot := if mx.isSome then none else some z }) (h' - l) (m - l))
            else some (.slice (some { block := a.block, off := a.off, spot := some 0 }) 0 0)
          else none
    | _, _ => none
  | some (.array n e), .pointer (some a) =>
    match P.info? e, bounds n n lo hi mx with
    | some i, some (l, h', m) => some (.slice (some { block := a.block, off := if m = l then a.off else a.off + l * i.size, spot := none }) (h' - l) (m - l))
    | _, _ => none
  | _, _ => none

/-- Not what is left at the end of a slice whose capacity is not known. -/
def notVoid : Value → Bool
  | .slice (some a) _ _ => a.spot != some 0
  | _ => true
/-- Values without addresses. -/
def ground : Nat → Value → Bool
  | n + 1, .agg cs => cs.toList.all (ground n)
  | _, .bool _ => true
  | _, .int _ _ => true
  | _, .float _ _ => true
  | _, .string _ => true
  | _, .pointer none => true
  | _, .slice none 0 0 => true
  | _, .map none => true
  | _, .nilFunc => true
  | _, .nilIface => true
  | _, _ => false
def zeroOk (P : Program) (t : TypeId) : Bool :=
  match P.info? t with
  | some i => match i.zero with
    | some z => ground 8 z
    | none => false
  | none => false
def elemZeroOk (P : Program) (t : TypeId) : Bool :=
  match P.underlying t with
  | some (.slice e) => zeroOk P e
  | some (.map _ e) => zeroOk P e
  | _ => false
def opOk (P : Program) : Op → Bool
  | .alloc t => zeroOk P t
  | .build t _ => zeroOk P t
  | .buildSlice t _ _ => elemZeroOk P t
  | .lookup t _ _ _ => elemZeroOk P t
  | .box .. => true
  | .load .. => true
  | .store .. => true
  | .makeInterface .. => true
  | .makeFunc .. => true
  | .makeMap _ none => true
  | .mapUpdate .. => true
  | .insert .. => true
  | .range .. => true
  | .next _ true => true
  | .fieldAddr .. => true
  | .field .. => true
  | .indexAddr .. => true
  | .index .. => true
  | .extract .. => true
  | .defer c => match c.callee with
    | .value _ => true
    | _ => false
  | .call c => match c.callee with
    | .builtin .len => c.args.size == 1
    | .builtin .copy => c.args.size == 2
    | _ => false
  | _ => false

/-- Operations that change memory, or may. -/
def heapOp : Op → Bool
  | .move _ => false
  | .assign _ => false
  | .pick .. => false
  | .build .. => false
  | .load .. => false
  | .nilCheck _ => false
  | .binOp .. => false
  | .unOp .. => false
  | .convert .. => false
  | .makeInterface .. => false
  | .makeFunc .. => false
  | .slice .. => false
  | .fieldAddr .. => false
  | .field .. => false
  | .indexAddr .. => false
  | .index .. => false
  | .lookup .. => false
  | .extract .. => false
  | .call c => match c.callee with
    | .builtin .len => false
    | .builtin .max => false
    | .builtin .min => false
    | _ => true
  | _ => true
/-- Meanings that only read. -/
def brun {α : Type} (P : Program) : Sem α → AH → Option α
  | .pure a, _ => some a
  | .load _ a k, h => match h.cell a with
    | some v => brun P (k v) h
    | none => none
  | .getObj r k, h => match h.get r with
    | some (.obj o) => brun P (k o) h
    | _ => none
  | .program k, h => brun P (k P) h
  | .mark _ k, h => brun P k h
  | _, _ => none
/-- Meanings that ask no memory. -/
def prun {α : Type} (P : Program) : Sem α → Option α
  | .pure a => some a
  | .program k => prun P (k P)
  | .mark _ k => prun P k
  | _ => none
/-- Whether two values of a type, one of them nil, are equal. -/
def nilCmp (P : Program) (t : TypeId) (x y : Value) : Option Bool :=
  match P.underlying t, x, y with
  | some (.pointer _), .pointer none, .pointer (some _) => some false
  | some (.pointer _), .pointer (some _), .pointer none => some false
  | some (.slice _), .slice none _ _, .slice (some _) _ _ => some false
  | some (.slice _), .slice (some _) _ _, .slice none _ _ => some false
  | some (.map _ _), .map none, .map (some _) => some false
  | some (.map _ _), .map (some _), .map none => some false
  | some (.func _ _ _), .nilFunc, .func _ _ _ => some false
  | some (.func _ _ _), .func _ _ _, .nilFunc => some false
  | some (.interface _), .nilIface, .iface _ _ => some false
  | some (.interface _), .iface _ _, .nilIface => some false
  | _, _, _ => none

/-- The slots of a call. -/
structure Env where
  t : Tr Value
  defers : List Deferred

def Env.eval (a : Env) : Operand → Value
  | .tmp t => match a.t.get t with
    | some v => v
    | none => undef
  | .const v => v
  | .global g => .pointer (some ⟨g, 0, none⟩)
  | .func f => .func (.func f) #[] #[]
def Env.put (a : Env) (dst : Option Tmp) (v : Value) : Env :=
  match dst with
  | some d => match a with
    | ⟨t, ds⟩ => ⟨t.set 16 d v, ds⟩
  | none => a
def fillEnv : Nat → List Value → Tr Value → Tr Value
  | _, [], t => t
  | i, v :: vs, t => fillEnv (i + 1) vs (t.set 16 i v)
def Env.of (args : List Value) : Env := ⟨fillEnv 0 args .leaf, []⟩
def Env.yielded (ops : Array Oper) (a : Env) (j : Nat) : Option Bool :=
  match (ops[j]?).bind (·.dst) with
  | some d => match a.t.get d with
    | some (.bool b) => some b
    | _ => none
  | none => none
def wantedE (o : Oper) (ops : Array Oper) (a : Env) : Bool :=
  match o.guard with
  | none => true
  | some (j, want) => match a.yielded ops j with
    | some b => b == want
    | none => false
/-- What a function returns. -/
def aresults (P : Program) (fn : Func) (a : Env) (h : AH) : Option Value :=
  let one : ResultVar → Option Value := fun
    | .tmp t => some (a.eval (.tmp t))
    | .cell t ty => match a.eval (.tmp t) with
      | .pointer (some p) => match arun P (loadVar ty p) h with
        | some (v, _) => some v
        | none => none
      | _ => none
  match fn.results.toList with
  | [] => some (.tuple #[])
  | [r] => one r
  | rs => match rs.mapM one with
    | some vs => some (.tuple vs.toArray)
    | none => none

inductive AEnd where
  | returned (v : Value)
  | panicked (chain : List PanicEntry)

abbrev AOut := Option (Exit × Env × AH)
def done (o : Oper) (a : Env) (h : AH) (v : Value) : AOut := some (.normal, a.put o.dst v, h)
def generic (P : Program) (o : Oper) (a : Env) (h : AH) : AOut :=
  match opOk P o.op with
  | true => match heapOp o.op with
    | true => match arun P (execOp a.eval o) h with
      | some (.value v, h') => some (.normal, a.put o.dst v, h')
      | some (.skip, h') => some (.normal, a.put o.dst undef, h')
      | some (.defer d, h') => some (.normal, Env.put ⟨a.t, d :: a.defers⟩ o.dst undef, h')
      | _ => none
    | false => match brun P (execOp a.eval o) h with
      | some (.value v) => some (.normal, a.put o.dst v, h)
      | _ => none
  | false => none
def gop (P : Program) (o : Oper) (a : Env) (h : AH) : AOut :=
  match o.op.operands.toList.all fun x => ground 8 (a.eval x) with
  | true => match prun P (execOp a.eval o) with
    | some (.value v) => match ground 8 v with
      | true => done o a h v
      | false => none
    | _ => none
  | false => none
/-- A type that is known and no interface. -/
def plainType (P : Program) (t : TypeId) : Bool :=
  match P.underlying t with
  | some (.interface _) => false
  | some _ => true
  | none => false
def fnFine (P : Program) (g : FuncId) : Bool :=
  match P.funcs[g]? with
  | some fn => fn.body.isSome && fn.name != "runtime.NumGoroutine"
  | none => false
abbrev ACall := FuncId → Array Value → AH → Option (AEnd × AH)
def aop (P : Program) (call : ACall) (o : Oper) (a : Env) (h : AH) : AOut :=
  match o.op with
  | .move x => done o a h (a.eval x)
  | .assign x => done o a h (a.eval x)
  | .pick c x y => match a.eval c with
    | .bool true => done o a h (a.eval x)
    | .bool false => done o a h (a.eval y)
    | _ => none
  | .nilCheck x => match a.eval x with
    | .pointer (some p) => done o a h (.pointer (some p))
    | _ => none
  | .panic x => match a.eval x with
    | .iface t v => some (.panic [{ v := .iface t v, recovered := false }], a, h)
    | _ => none
  | .typeAssert x _ t ok => match a.eval x with
    | .iface t' v => match decide (t' = t) && plainType P t with
      | true => done o a h (match ok with
        | true => .tuple #[v, .bool true]
        | false => v)
      | false => none
    | _ => none
  | .slice t x lo hi mx => match a.eval x with
    | .string _ => gop P o a h
    | v => match aslice P t v (lo.map a.eval) (hi.map a.eval) (mx.map a.eval) with
      | some r => done o a h r
      | none => none
  | .lookup _ _ ix _ => match a.eval ix with
    | .string _ => generic P o a h
    | _ => none
  | .mapUpdate _ _ k _ => match a.eval k with
    | .string _ => generic P o a h
    | _ => none
  | .insert _ _ k _ => match a.eval k with
    | .string _ => generic P o a h
    | _ => none
  | .range _ x => match a.eval x with
    | .string _ => generic P o a h
    | _ => none
  | .binOp op t x y _ => match nilCmp P t (a.eval x) (a.eval y) with
    | some b => match op with
      | .eql => done o a h (.bool b)
      | .neq => done o a h (.bool !b)
      | _ => none
    | none => gop P o a h
  | .unOp _ _ _ => gop P o a h
  | .convert _ _ _ => gop P o a h
  | .call c => match c.callee with
    | .builtin b => match b with
      | .append => match c.args.toList with
        | [s, x] => match aappend P c.argTypes (a.eval s) (a.eval x) h with
          | some (v, h') => done o a h' v
          | none => none
        | _ => none
      | .max => gop P o a h
      | .min => gop P o a h
      | .copy => match c.args.toList.all fun x => notVoid (a.eval x) with
        | true => generic P o a h
        | false => none
      | _ => generic P o a h
    | .value f => match a.eval f with
      | .func (.func g) first cap => match fnFine P g with
        | true => match call g ((first ++ c.args.map a.eval) ++ cap) h with
          | some (.returned v, h') => done o a h' v
          | some (.panicked ch, h') => some (.panic ch, a, h')
          | none => none
        | false => none
      | _ => none
    | _ => none
  | _ => generic P o a h

/-! ### Regions, code, calls -/
def aops (P : Program) (call : ACall) (ops : Array Oper) : List Oper → Env → AH → AOut
  | [], a, h => some (.normal, a, h)
  | o :: rest, a, h => match (match wantedE o ops a with
      | true => aop P call o a h
      | false => some (.normal, a.put o.dst undef, h)) with
    | some (.normal, a', h') => aops P call ops rest a' h'
    | r => r
/-- Equal values, as far as so many levels show. -/
def veq : Nat → Value → Value → Bool
  | 0, _, _ => false
  | n + 1, x, y => match x, y with
    | .bool a, .bool b => a == b
    | .int k a, .int l b => decide (k = l) && decide (a = b)
    | .string a, .string b => decide (a = b)
    | .pointer a, .pointer b => decide (a = b)
    | .slice a l c, .slice b m d => decide (a = b) && (l == m && c == d)
    | .map a, .map b => decide (a = b)
    | .nilFunc, .nilFunc => true
    | .nilIface, .nilIface => true
    | .agg a, .agg b => veqs n a.toList b.toList
    | .tuple a, .tuple b => veqs n a.toList b.toList
    | _, _ => false
 where
  veqs (n : Nat) : List Value → List Value → Bool
    | [], [] => true
    | x :: xs, y :: ys => veq n x y && veqs n xs ys
    | _, _ => false
structure Step where
  o : Oper
  i : Nat
  a : Env
  h : AH
  a' : Env
  h' : AH
/-- Operations that only make a row: when, is all the same. -/
def makes : Op → Bool
  | .alloc _ => true
  | .box .. => true
  | .buildSlice .. => true
  | _ => false
/-- Operations that change memory: they stand in a row. -/
def mainOp (o : Oper) : Bool := heapOp o.op && !makes o.op
/-- Which of them change memory, as a number's bits. -/
def mainMask : List (Oper × Nat) → Nat
  | [] => 0
  | p :: l => match mainOp p.1 with
    | true => 2 ^ p.2 ||| mainMask l
    | false => mainMask l
/-- By how many of those stand ahead. -/
def keyOf (b : Array Nat) (mm : Nat) (p : Oper × Nat) : Nat :=
  match mainOp p.1 with
  | true => Nat.succ (Nat.mul 2 (b.getD p.2 0 &&& mm))
  | false => Nat.mul 2 (b.getD p.2 0 &&& mm)
def insKey (k : Nat) (p : Oper × Nat) : List (Nat × (Oper × Nat)) → List (Nat × (Oper × Nat))
  | [] => [(k, p)]
  | q :: l => match Nat.ble q.1 k with
    | true => q :: insKey k p l
    | false => (k, p) :: q :: l
def sortKey (b : Array Nat) (mm : Nat) : List (Oper × Nat) → List (Nat × (Oper × Nat)) → List (Nat × (Oper × Nat))
  | [], acc => acc
  | p :: l, acc => sortKey b mm l (insKey (keyOf b mm p) p acc)
/-- Each operation as early as may be. -/
def eager (b : Array Nat) (l : List (Oper × Nat)) : List (Oper × Nat) := (sortKey b (mainMask l) l []).map (·.2)
/-- Everything else stands ahead of the last operation. -/
def lastAll (ops : Array Oper) (i : Nat) : Bool := Nat.beq (Nat.succ i) ops.size && Nat.beq (Nat.succ ((Region.before ops).getD i 0)) (2 ^ i)
def logOps (P : Program) (call : ACall) (ops : Array Oper) : List (Oper × Nat) → Env → AH → Option (List Step × Exit × Env × AH)
  | [], a, h => some ([], .normal, a, h)
  | p :: rest, a, h => match (match wantedE p.1 ops a with
      | true => aop P call p.1 a h
      | false => some (.normal, a.put p.1.dst undef, h)) with
    | some (.normal, a', h') => match logOps P call ops rest a' h' with
      | some (l, r) => some (⟨p.1, p.2, a, h, a', h'⟩ :: l, r)
      | none => none
    | some (.panic c, a', h') => match rest with
      | [] => match mainOp p.1 && lastAll ops p.2 with
        | true => some ([⟨p.1, p.2, a, h, a.put p.1.dst undef, h⟩], .panic c, a', h')
        | false => none
      | _ :: _ => none
    | _ => none
/-- The slots that an operation looks at. -/
def lookedAt (ops : Array Oper) (o : Oper) : List Tmp :=
  (match o.guard with
    | none => []
    | some (j, _) => match ops[j]? with
      | some g => g.dst.toList
      | none => []) ++ o.op.operands.toList.filterMap fun
    | .tmp t => some t
    | _ => none
def apart (b : Array Nat) (i j : Nat) : Bool := (b.getD (max i j) 0).testBit (min i j)
/-- What the operations ahead of one have in common with those that it names. -/
def depMask (b : Array Nat) : List Edge → Nat
  | [] => 0
  | e :: es => match Region.binds .any e with
    | true => (2 ^ e.on ||| b.getD e.on 0) ||| depMask b es
    | false => depMask b es
def slotsOk (ops : Array Oper) (b : Array Nat) (p : Oper × Nat) : List (Oper × Nat) → Bool
  | [] => true
  | q :: l => match (if p.2 = q.2 then true else match q.1.dst with
      | none => true
      | some d => match p.1.dst == some d with
        | true => false
        | false => match (lookedAt ops p.1).contains d with
          | true => apart b p.2 q.2
          | false => true) with
    | true => slotsOk ops b p l
    | false => false
/-- What an order that is left open may not touch: those that share a slot stand in a row. -/
def orderOk (ops : Array Oper) : Bool :=
  let b := Region.before ops
  let l := ops.toList.zipIdx
  l.all fun p => (p.1.after.toList.all fun e => !Region.binds .any e || decide (e.on < p.2)) && (b.getD p.2 0 &&& depMask b p.1.after.toList == b.getD p.2 0) && slotsOk ops b p l
/-- The order in which they were done: each once, behind all that it needs; those that change memory stand in a row, and each of the others needs those that change memory ahead of it. -/
def logOk (n : Nat) (ops : Array Oper) (b : Array Nat) : List Step → Nat → Nat → Bool
  | [], m, _ => m == 2 ^ n - 1
  | s :: l, m, mm => (b.getD s.i 0 &&& m == b.getD s.i 0) && (mm &&& b.getD s.i 0 == mm) && !m.testBit s.i && (!makes s.o.op || (s.h.get s.h.next).isNone) && Nat.ble s.h.next s.h'.next &&
    logOk n ops b l (m ||| 2 ^ s.i) (match mainOp s.o with
      | true => mm ||| 2 ^ s.i
      | false => mm)
def sameOut (o : Oper) (a' : Env) : AOut → Bool
  | some (.normal, a2, _) => match o.dst with
    | none => true
    | some d => veq 12 (a'.eval (.tmp d)) (a2.eval (.tmp d))
  | _ => false
/-- Each operation that only reads, when it comes later than it might, finds the same. -/
def stable (P : Program) (call : ACall) (ops : Array Oper) (b : Array Nat) : List Step → Bool
  | [] => true
  | s :: log => (heapOp s.o.op || !wantedE s.o ops s.a || log.all fun q => !mainOp q.o || (b.getD q.i 0).testBit s.i || sameOut s.o s.a' (aop P call s.o s.a q.h')) && stable P call ops b log
def adraw (P : Program) (call : ACall) (ops : Array Oper) (a : Env) (h : AH) : AOut :=
  match orderOk ops with
  | true => match logOps P call ops (eager (Region.before ops) ops.toList.zipIdx) a h with
    | some (log, e, a', h') => match logOk ops.size ops (Region.before ops) log 0 0 with
      | true => match stable P call ops (Region.before ops) log with
        | true => some (e, a', h')
        | false => none
      | false => none
    | none => none
  | false => none
def loopN (f : Env → AH → AOut) : Nat → Env → AH → AOut
  | 0, _, _ => none
  | n + 1, a, h => match f a h with
    | some (.normal, a', h') => loopN f n a' h'
    | r => r
def acode (P : Program) (call : ACall) (N : Nat) : Code → Env → AH → AOut
  | .skip, a, h => some (.normal, a, h)
  | .seq x y, a, h => match acode P call N x a h with
    | some (.normal, a', h') => acode P call N y a' h'
    | r => r
  | .cond c x y, a, h => match a.eval c with
    | .bool true => acode P call N x a h
    | .bool false => acode P call N y a h
    | _ => none
  | .block id b, a, h => match acode P call N b a h with
    | some (.exit i, a', h') => if i = id then some (.normal, a', h') else some (.exit i, a', h')
    | r => r
  | .loop b, a, h => loopN (acode P call N b) N a h
  | .exit id, a, h => some (.exit id, a, h)
  | .ret, a, h => some (.ret, a, h)
  | .region _ ops false, a, h => aops P call ops ops.toList a h
  | .region _ ops true, a, h => adraw P call ops a h
  | _, _, _ => none

/-- A deferred call's code: it may ask what its caller panics with. -/
def aopsS (P : Program) (call : ACall) (ops : Array Oper) : List Oper → Env → FrameMode → AH → Option (Exit × Env × FrameMode × AH)
  | [], a, u, h => some (.normal, a, u, h)
  | o :: rest, a, u, h =>
    match wantedE o ops a with
    | true =>
      match o.op with
      | .call { callee := .builtin .recover, .. } =>
        match u with
        | .panicking ({ v, recovered := false, goexit := false } :: older) => aopsS P call ops rest (a.put o.dst v) (.panicking ({ v, recovered := true } :: older)) h
        | _ => aopsS P call ops rest (a.put o.dst .nilIface) u h
      | _ => match aop P call o a h with
        | some (.normal, a', h') => aopsS P call ops rest a' u h'
        | some (e, a', h') => some (e, a', u, h')
        | none => none
    | false => aopsS P call ops rest (a.put o.dst undef) u h
def acodeS (P : Program) (call : ACall) (N : Nat) : Code → Env → FrameMode → AH → Option (Exit × Env × FrameMode × AH)
  | .seq x y, a, u, h => match acodeS P call N x a u h with
    | some (.normal, a', u', h') => acodeS P call N y a' u' h'
    | r => r
  | .cond c x y, a, u, h => match a.eval c with
    | .bool true => acodeS P call N x a u h
    | .bool false => acodeS P call N y a u h
    | _ => none
  | .region _ ops false, a, u, h => aopsS P call ops ops.toList a u h
  | c, a, u, h => match acode P call N c a h with
    | some (e, a', h') => some (e, a', u, h')
    | none => none
/-- What a function's text must keep to: its slots, its constants and variables. -/
def operandOk (P : Program) : Operand → Bool
  | .const v => ground 8 v
  | .global g => decide (g < P.globals.size)
  | _ => true
def operOk (P : Program) (n : Nat) (o : Oper) : Bool :=
  (o.op.operands.toList.all (operandOk P)) && match o.dst with
    | some d => decide (d < n)
    | none => true
def codeOk (P : Program) (n : Nat) : Code → Bool
  | .seq x y => codeOk P n x && codeOk P n y
  | .cond c x y => operandOk P c && (codeOk P n x && codeOk P n y)
  | .block _ b => codeOk P n b
  | .loop b => codeOk P n b
  | .region _ ops _ => ops.toList.all (operOk P n)
  | _ => true
def fnOk (P : Program) (f : FuncId) : Bool :=
  match P.funcs[f]? with
  | some fn => match fn.body with
    | some c => decide (fn.ntmps < 1000000) && codeOk P fn.ntmps c
    | none => false
  | none => false
def aleave (P : Program) (call : ACall) (N : Nat) (fn : Func) (b : Env) : List Deferred → FrameMode → AH → Option (AEnd × AH)
  | [], .returning, h => match aresults P fn b h with
    | some v => some (.returned v, h)
    | none => none
  | [], .panicking ch, h => some (.panicked ch, h)
  | [], .run, _ => none
  | d :: ds, u, h => match u, d.target with
    | .run, _ => none
    | _, .fn (.func f) cap => match fnFine P f && fnOk P f && Nat.ble (d.args.size + cap.size) 1000000, P.funcs[f]? with
      | true, some g => match g.body with
        | some c => match acodeS P call N c (Env.of (d.args ++ cap).toList) u h with
          | some (e, a, u', h2) => match a.defers with
            | [] => match e with
              | .panic ch => aleave P call N fn b ds (raised u' ch) h2
              | .normal => if (aresults P g a h2).isSome then aleave P call N fn b ds (settle u') h2 else none
              | .ret => if (aresults P g a h2).isSome then aleave P call N fn b ds (settle u') h2 else none
              | _ => none
            | _ => none
          | none => none
        | none => none
      | _, _ => none
    | _, _ => none
def acall (P : Program) (N : Nat) : Nat → ACall
  | 0, _, _, _ => none
  | n + 1, f, args, h => match fnOk P f && Nat.ble args.size 1000000, P.funcs[f]? with
    | true, some fn => match fn.body with
      | none => none
      | some c => match acode P (acall P N n) N c (Env.of args.toList) h with
        | some (.normal, a, h') => aleave P (acall P N n) N fn a a.defers .returning h'
        | some (.ret, a, h') => aleave P (acall P N n) N fn a a.defers .returning h'
        | some (.panic ch, a, h') => aleave P (acall P N n) N fn a a.defers (.panicking ch) h'
        | _ => none
    | _, _ => none
end
end Go.Proofs.YtiffnkmbmenhfaaDoor.Run
/-! Rows and blocks: what it is that a row stands for a block, and that a meaning run over rows is run over blocks. -/
namespace Go.Proofs.YtiffnkmbmenhfaaDoor.Run
open Go Go.RowKit
set_option linter.unusedVariables false
set_option linter.unusedSimpArgs false

/-! ### The tree -/
theorem Tr.get_leaf {α : Type} (k : Nat) : (Tr.leaf : Tr α).get k = none := rfl
theorem Tr.get_zero {α : Type} (v : Option α) (c0 c1 c2 c3 : Tr α) : (Tr.node v c0 c1 c2 c3).get 0 = v := rfl
theorem four_eq {β : Type} (x0 x1 x2 x3 : β) (j : Nat) : four x0 x1 x2 x3 (j % 4) = if j % 4 = 0 then x0 else if j % 4 = 1 then x1 else if j % 4 = 2 then x2 else x3 := by
  have h : j % 4 = 0 ∨ j % 4 = 1 ∨ j % 4 = 2 ∨ j % 4 = 3 := by omega
  rcases h with h | h | h | h <;> (rw [h]; rfl)
theorem Tr.get_succ {α : Type} (v : Option α) (c0 c1 c2 c3 : Tr α) (j : Nat) : (Tr.node v c0 c1 c2 c3).get (j + 1) =
    if j % 4 = 0 then c0.get (j / 4) else if j % 4 = 1 then c1.get (j / 4) else if j % 4 = 2 then c2.get (j / 4) else c3.get (j / 4) := by
  have e : (Tr.node v c0 c1 c2 c3).get (j + 1) = four c0.get c1.get c2.get c3.get (j % 4) (j / 4) := rfl
  rw [e, four_eq]
  split
  · rfl
  · split
    · rfl
    · split <;> rfl
theorem Tr.setK_succ {α : Type} (s : Tr α → Nat → α → Tr α) (v : Option α) (c0 c1 c2 c3 : Tr α) (j : Nat) (x : α) : Tr.setK s v c0 c1 c2 c3 (j + 1) x =
    if j % 4 = 0 then .node v (s c0 (j / 4) x) c1 c2 c3 else if j % 4 = 1 then .node v c0 (s c1 (j / 4) x) c2 c3 else
    if j % 4 = 2 then .node v c0 c1 (s c2 (j / 4) x) c3 else .node v c0 c1 c2 (s c3 (j / 4) x) := by
  have e : Tr.setK s v c0 c1 c2 c3 (j + 1) x = four (β := SetF α) (fun s v c0 c1 c2 c3 j x => .node v (s c0 j x) c1 c2 c3) (fun s v c0 c1 c2 c3 j x => .node v c0 (s c1 j x) c2 c3) (fun s v c0 c1 c2 c3 j x => .node v c0 c1 (s c2 j x) c3)
    (fun s v c0 c1 c2 c3 j x => .node v c0 c1 c2 (s c3 j x)) (j % 4) s v c0 c1 c2 c3 (j / 4) x := rfl
  rw [e, four_eq]
  split
  · rfl
  · split
    · rfl
    · split <;> rfl
theorem Tr.set_leafS {α : Type} (n j : Nat) (x : α) : Tr.set (n + 1) .leaf (j + 1) x =
    if j % 4 = 0 then .node none (Tr.set n .leaf (j / 4) x) .leaf .leaf .leaf else if j % 4 = 1 then .node none .leaf (Tr.set n .leaf (j / 4) x) .leaf .leaf else
    if j % 4 = 2 then .node none .leaf .leaf (Tr.set n .leaf (j / 4) x) .leaf else .node none .leaf .leaf .leaf (Tr.set n .leaf (j / 4) x) := Tr.setK_succ _ _ _ _ _ _ _ _
theorem Tr.set_nodeS {α : Type} (n j : Nat) (x : α) (v : Option α) (c0 c1 c2 c3 : Tr α) : Tr.set (n + 1) (.node v c0 c1 c2 c3) (j + 1) x =
    if j % 4 = 0 then .node v (c0.set n (j / 4) x) c1 c2 c3 else if j % 4 = 1 then .node v c0 (c1.set n (j / 4) x) c2 c3 else
    if j % 4 = 2 then .node v c0 c1 (c2.set n (j / 4) x) c3 else .node v c0 c1 c2 (c3.set n (j / 4) x) := Tr.setK_succ _ _ _ _ _ _ _ _
theorem Tr.set_leaf0 {α : Type} (n : Nat) (x : α) : Tr.set (n + 1) .leaf 0 x = .node (some x) .leaf .leaf .leaf .leaf := rfl
theorem Tr.set_node0 {α : Type} (n : Nat) (x : α) (v : Option α) (c0 c1 c2 c3 : Tr α) : Tr.set (n + 1) (.node v c0 c1 c2 c3) 0 x = .node (some x) c0 c1 c2 c3 := rfl
theorem Tr.get_set {α : Type} : ∀ (n : Nat) (t : Tr α) (k : Nat) (x : α) (q : Nat), k < 4 ^ n → (t.set (n + 1) k x).get q = if q = k then some x else t.get q := by
  intro n
  induction n with
  | zero =>
    intro t k x q hk
    have : k = 0 := by simp at hk; omega
    subst this
    cases t <;> cases q <;> simp [Tr.set_leaf0, Tr.set_node0, Tr.get_zero, Tr.get_succ, Tr.get_leaf]
  | succ n ih =>
    intro t k x q hk
    cases k with
    | zero => cases t <;> cases q <;> simp [Tr.set_leaf0, Tr.set_node0, Tr.get_zero, Tr.get_succ, Tr.get_leaf]
    | succ j =>
      have hj : j / 4 < 4 ^ n := by
        rw [Nat.pow_succ] at hk
        omega
      have key : ∀ i, i + 1 = j + 1 ↔ (i % 4 = j % 4 ∧ i / 4 = j / 4) := by intro i; omega
      have h : j % 4 = 0 ∨ j % 4 = 1 ∨ j % 4 = 2 ∨ j % 4 = 3 := by omega
      cases t with
      | leaf =>
        rw [Tr.set_leafS]
        cases q with
        | zero => rcases h with h | h | h | h <;> simp [h, Tr.get_zero, Tr.get_leaf]
        | succ i =>
          simp only [key i]
          have h' : i % 4 = 0 ∨ i % 4 = 1 ∨ i % 4 = 2 ∨ i % 4 = 3 := by omega
          rcases h with h | h | h | h <;> rcases h' with h' | h' | h' | h' <;> simp [h, h', Tr.get_succ, Tr.get_leaf, ih _ _ _ _ hj]
      | node v c0 c1 c2 c3 =>
        rw [Tr.set_nodeS]
        cases q with
        | zero => rcases h with h | h | h | h <;> simp [h, Tr.get_zero]
        | succ i =>
          simp only [key i]
          have h' : i % 4 = 0 ∨ i % 4 = 1 ∨ i % 4 = 2 ∨ i % 4 = 3 := by omega
          rcases h with h | h | h | h <;> rcases h' with h' | h' | h' | h' <;> simp [h, h', Tr.get_succ, ih _ _ _ _ hj]
theorem Tr.get_set16 {α : Type} (t : Tr α) (k : Nat) (x : α) (q : Nat) (hk : k < 1073741824) : (t.set 16 k x).get q = if q = k then some x else t.get q :=
  Tr.get_set 15 t k x q hk

/-! ### The relation -/
/-- Where a row lies: its block, how far in, and how many cells the block has. -/
structure Spot where
  b : Nat
  s : Nat
  e : Nat
abbrev Ren := Nat → Option Spot
def Ren.le (ρ ρ' : Ren) : Prop := ∀ a p, ρ a = some p → ρ' a = some p
theorem Ren.le_refl (ρ : Ren) : ρ.le ρ := fun _ _ h => h
theorem Ren.le_trans {a b c : Ren} (h : a.le b) (k : b.le c) : a.le c := fun x p hx => k x p (h x p hx)

inductive VRel (ρ : Ren) : Value → Value → Prop
  | bool (b : Bool) : VRel ρ (.bool b) (.bool b)
  | int (k : IntKind) (n : Int) : VRel ρ (.int k n) (.int k n)
  | float (k : FloatKind) (n : Nat) : VRel ρ (.float k n) (.float k n)
  | string (s : ByteArray) : VRel ρ (.string s) (.string s)
  | nilPtr : VRel ρ (.pointer none) (.pointer none)
  | ptr (a : Addr) (p : Spot) (h : ρ a.block = some p) : VRel ρ (.pointer (some a)) (.pointer (some ⟨p.b, a.off + p.s, none⟩))
  | nilSlice : VRel ρ (.slice none 0 0) (.slice none 0 0)
  | slice (a : Addr) (p : Spot) (len cap : Nat) (h : ρ a.block = some p) (hs : a.spot = none) (hl : len ≤ cap) :
      VRel ρ (.slice (some a) len cap) (.slice (some ⟨p.b, a.off + p.s, none⟩) len cap)
  | grown (a : Addr) (p : Spot) (z len cap cap' : Nat) (h : ρ a.block = some p) (hs : a.spot = some z) (hz : 0 < z) (hl : len ≤ cap) (hc : cap ≤ cap') (he : a.off + p.s + cap' * z ≤ p.e) :
      VRel ρ (.slice (some a) len cap) (.slice (some ⟨p.b, a.off + p.s, none⟩) len cap')
  | void (a : Addr) (b o c : Nat) (hs : a.spot = some 0) : VRel ρ (.slice (some a) 0 0) (.slice (some ⟨b, o, none⟩) 0 c)
  | nilMap : VRel ρ (.map none) (.map none)
  | map (r : Nat) (p : Spot) (h : ρ r = some p) : VRel ρ (.map (some r)) (.map (some p.b))
  | func (fn : Fn) (x y x' y' : Array Value) (hx : x.size = x'.size) (hy : y.size = y'.size) (h1 : ∀ (i : Nat) u v, x[i]? = some u → x'[i]? = some v → VRel ρ u v)
      (h2 : ∀ (i : Nat) u v, y[i]? = some u → y'[i]? = some v → VRel ρ u v) : VRel ρ (.func fn x y) (.func fn x' y')
  | nilFunc : VRel ρ .nilFunc .nilFunc
  | iface (t : TypeId) (v v' : Value) (h : VRel ρ v v') : VRel ρ (.iface t v) (.iface t v')
  | nilIface : VRel ρ .nilIface .nilIface
  | agg (x x' : Array Value) (hx : x.size = x'.size) (h : ∀ (i : Nat) u v, x[i]? = some u → x'[i]? = some v → VRel ρ u v) : VRel ρ (.agg x) (.agg x')
  | tuple (x x' : Array Value) (hx : x.size = x'.size) (h : ∀ (i : Nat) u v, x[i]? = some u → x'[i]? = some v → VRel ρ u v) : VRel ρ (.tuple x) (.tuple x')

theorem VRel.mono {ρ ρ' : Ren} (hle : ρ.le ρ') {v v' : Value} (h : VRel ρ v v') : VRel ρ' v v' := by
  induction h with
  | bool b => exact .bool b
  | int k n => exact .int k n
  | float k n => exact .float k n
  | string s => exact .string s
  | nilPtr => exact .nilPtr
  | ptr a p h => exact .ptr a p (hle _ _ h)
  | nilSlice => exact .nilSlice
  | slice a p len cap h hs hl => exact .slice a p len cap (hle _ _ h) hs hl
  | grown a p z len cap cap' h hs hz hl hc he => exact .grown a p z len cap cap' (hle _ _ h) hs hz hl hc he
  | void a b o c hs => exact .void a b o c hs
  | nilMap => exact .nilMap
  | map r p h => exact .map r p (hle _ _ h)
  | func fn x y x' y' hx hy _ _ i1 i2 => exact .func fn x y x' y' hx hy i1 i2
  | nilFunc => exact .nilFunc
  | iface t v v' _ ih => exact .iface t v v' ih
  | nilIface => exact .nilIface
  | agg x x' hx _ ih => exact .agg x x' hx ih
  | tuple x x' hx _ ih => exact .tuple x x' hx ih

/-- Two arrays, element by element. -/
def AsRel (ρ : Ren) (x x' : Array Value) : Prop := x.size = x'.size ∧ ∀ (i : Nat) u v, x[i]? = some u → x'[i]? = some v → VRel ρ u v
def LsRel (ρ : Ren) (x x' : List Value) : Prop := x.length = x'.length ∧ ∀ (i : Nat) u v, x[i]? = some u → x'[i]? = some v → VRel ρ u v
theorem AsRel.mono {ρ ρ' : Ren} (hle : ρ.le ρ') {x x' : Array Value} (h : AsRel ρ x x') : AsRel ρ' x x' := ⟨h.1, fun i u v a b => (h.2 i u v a b).mono hle⟩
theorem LsRel.mono {ρ ρ' : Ren} (hle : ρ.le ρ') {x x' : List Value} (h : LsRel ρ x x') : LsRel ρ' x x' := ⟨h.1, fun i u v a b => (h.2 i u v a b).mono hle⟩

/-- Cells from a spot on are related to the cells of a row. -/
def CellsRel (ρ : Ren) (w : World) (p : Spot) (cs : List Value) : Prop := ∀ (i : Nat) v, cs[i]? = some v → ∃ v', w.cell? ⟨p.b, i + p.s, none⟩ = some v' ∧ VRel ρ v v'

def EntriesRel (ρ : Ren) (es es' : Array MapEntry) : Prop :=
  es.size = es'.size ∧ ∀ (i : Nat) e e', es[i]? = some e → es'[i]? = some e' → e.born = e'.born ∧ VRel ρ e.key e'.key ∧ VRel ρ e.val e'.val
inductive ORel (ρ : Ren) : Obj → Obj → Prop
  | map (es es' : Array MapEntry) (c : Nat) (h : EntriesRel ρ es es') : ORel ρ (.map es c) (.map es' c)
  | iter (s : ByteArray) (p : Nat) : ORel ρ (.stringIter s p) (.stringIter s p)
theorem ORel.mono {ρ ρ' : Ren} (hle : ρ.le ρ') {o o' : Obj} (h : ORel ρ o o') : ORel ρ' o o' := by
  cases h with
  | map es es' c h => exact .map es es' c ⟨h.1, fun i e e' a b => let ⟨h1, h2, h3⟩ := h.2 i e e' a b; ⟨h1, h2.mono hle, h3.mono hle⟩⟩
  | iter s p => exact .iter s p

def RowRel (ρ : Ren) (w : World) (p : Spot) : Row → Prop
  | .ro cs => CellsRel ρ w p cs
  | .rw cs => CellsRel ρ w p cs ∧ (∀ j, j < p.e → (w.cell? ⟨p.b, j, none⟩).isSome = true) ∧ (∀ j, w.frozen? ⟨p.b, j, none⟩ = false) ∧ cs.length + p.s ≤ p.e
  | .obj o => p.s = 0 ∧ ∃ o', w.heap[p.b]? = some o' ∧ ORel ρ o o'
  | .dead => True

theorem CellsRel.mono {ρ ρ' : Ren} (hle : ρ.le ρ') {w w' : World} {p : Spot} {cs : List Value} (hb : w'.heap[p.b]? = w.heap[p.b]?) (h : CellsRel ρ w p cs) : CellsRel ρ' w' p cs :=
  fun i v hv => let ⟨v', h1, h2⟩ := h i v hv; ⟨v', by rw [World.cell?_of_block (w := w) hb]; exact h1, h2.mono hle⟩
theorem RowRel.mono {ρ ρ' : Ren} (hle : ρ.le ρ') {w w' : World} {p : Spot} {r : Row} (hb : w'.heap[p.b]? = w.heap[p.b]?) (h : RowRel ρ w p r) : RowRel ρ' w' p r := by
  cases r with
  | ro cs => exact CellsRel.mono hle hb h
  | rw cs => exact ⟨h.1.mono hle hb, fun j hj => by rw [World.cell?_of_block (w := w) hb]; exact h.2.1 j hj, fun j => by rw [World.frozen?_of_block (w := w) hb]; exact h.2.2.1 j, h.2.2.2⟩
  | obj o => exact ⟨h.1, let ⟨o', h1, h2⟩ := h.2; ⟨o', by rw [hb]; exact h1, h2.mono hle⟩⟩
  | dead => trivial

structure WRel (ρ : Ren) (h : AH) (w : World) : Prop where
  lim : h.next ≤ AH.lim
  old : ∀ a p, ρ a = some p → a < h.next
  low : ∀ a p, ρ a = some p → p.b < w.heap.size
  row : ∀ a p r, ρ a = some p → h.get a = some r → RowRel ρ w p r
  inj : ∀ a a' p p', ρ a = some p → ρ a' = some p' → p.b = p'.b → a ≠ a' → h.get a = some .dead ∨ h.get a' = some .dead

/-- A block that may be written. -/
def Wr (ρ : Ren) (h : AH) (b : Nat) : Prop := ∃ a p, ρ a = some p ∧ p.b = b ∧ ∀ cs, h.get a ≠ some (.ro cs)
structure Fr (ρ : Ren) (h : AH) (w : World) (ρ' : Ren) (h' : AH) (w' : World) : Prop where
  os : w'.os = w.os
  tape : w'.tape = w.tape
  output : w'.output = w.output
  size : w.heap.size ≤ w'.heap.size
  le : ρ.le ρ'
  same : ∀ b, b < w.heap.size → ¬ Wr ρ h b → w'.heap[b]? = w.heap[b]? ∧ ¬ Wr ρ' h' b
  next : h.next ≤ h'.next
  keep : ∀ k, k < h.next → ρ k = none → ρ' k = none ∧ h'.get k = h.get k
theorem Fr.refl (ρ : Ren) (h : AH) (w : World) : Fr ρ h w ρ h w := ⟨rfl, rfl, rfl, Nat.le_refl _, Ren.le_refl ρ, fun _ _ k => ⟨rfl, k⟩, Nat.le_refl _, fun _ _ e => ⟨e, rfl⟩⟩
theorem Fr.trans {ρ ρ1 ρ2 : Ren} {h h1 h2 : AH} {w w1 w2 : World} (f : Fr ρ h w ρ1 h1 w1) (g : Fr ρ1 h1 w1 ρ2 h2 w2) : Fr ρ h w ρ2 h2 w2 :=
  ⟨g.os.trans f.os, g.tape.trans f.tape, g.output.trans f.output, Nat.le_trans f.size g.size, Ren.le_trans f.le g.le, fun b hb hn =>
    let ⟨h1, n1⟩ := f.same b hb hn
    let ⟨h2, n2⟩ := g.same b (Nat.lt_of_lt_of_le hb f.size) n1
    ⟨h2.trans h1, n2⟩, Nat.le_trans f.next g.next, fun k hk e =>
    let ⟨e1, s1⟩ := f.keep k hk e
    let ⟨e2, s2⟩ := g.keep k (Nat.lt_of_lt_of_le hk f.next) e1
    ⟨e2, s2.trans s1⟩⟩

/-- What is run over rows is run over blocks. -/
def SR {α β : Type} (P : Program) (ρ : Ren) (R : Ren → α → β → Prop) (s : Sem α) (s' : Sem β) : Prop :=
  ∀ h w, WRel ρ h w → ∀ a h', arun P s h = some (a, h') → ∃ ρ' a' w', s'.run P w = .ok a' w' ∧ WRel ρ' h' w' ∧ R ρ' a a' ∧ Fr ρ h w ρ' h' w'
/-- .. and nothing is written. -/
def RR {α β : Type} (P : Program) (ρ : Ren) (R : Ren → α → β → Prop) (s : Sem α) (s' : Sem β) : Prop :=
  ∀ h w, WRel ρ h w → ∀ a h', arun P s h = some (a, h') → h' = h ∧ ∃ a', s'.run P w = .ok a' w ∧ R ρ a a'
theorem RR.sr {α β : Type} {P : Program} {ρ : Ren} {R : Ren → α → β → Prop} {s : Sem α} {s' : Sem β} (h : RR P ρ R s s') : SR P ρ R s s' := by
  intro hh w hw a h' ha
  obtain ⟨rfl, a', h1, h2⟩ := h hh w hw a h' ha
  exact ⟨ρ, a', w, h1, hw, h2, Fr.refl _ _ _⟩

/-! ### How meanings are put together -/
theorem arun_bind {α β : Type} (P : Program) (s : Sem α) (f : α → Sem β) (h : AH) : arun P (s.bind f) h = match arun P s h with
    | some (a, h') => arun P (f a) h'
    | none => none := by
  induction s generalizing h with
  | pure a => simp [Sem.bind, arun]
  | load m a k ih => simp only [Sem.bind, arun]; split <;> simp [ih, *]
  | store m a v k ih => cases v <;> simp only [Sem.bind, arun] <;> (try (split <;> simp [ih, *]))
  | new o k ih =>
    simp only [Sem.bind, arun]
    split
    · split <;> simp [ih]
    · rfl
  | getObj r k ih => simp only [Sem.bind, arun]; split <;> simp [ih]
  | setObj r o k ih =>
    simp only [Sem.bind, arun]
    split
    · split <;> simp [ih]
    · rfl
  | program k ih => simp [Sem.bind, arun, ih]
  | mark m k ih => simp [Sem.bind, arun, ih]
  | _ => simp [Sem.bind, arun]
theorem SR.bind {α β α' β' : Type} {P : Program} {ρ : Ren} {R : Ren → α → β → Prop} {R' : Ren → α' → β' → Prop} {s : Sem α} {s' : Sem β} {f : α → Sem α'} {f' : β → Sem β'}
    (h : SR P ρ R s s') (hf : ∀ ρ' a a', ρ.le ρ' → R ρ' a a' → SR P ρ' R' (f a) (f' a')) : SR P ρ R' (s >>= f) (s' >>= f') := by
  intro hh w hw a h' ha
  have ha' : arun P (s.bind f) hh = some (a, h') := ha
  rw [arun_bind] at ha'
  split at ha'
  · rename_i x h1 hx
    obtain ⟨ρ1, x', w1, r1, hw1, hR, fr1⟩ := h hh w hw x h1 hx
    obtain ⟨ρ2, a2, w2, r2, hw2, hR2, fr2⟩ := hf ρ1 x x' fr1.le hR h1 w1 hw1 a h' ha'
    exact ⟨ρ2, a2, w2, by rw [Sem.run_bind, r1]; exact r2, hw2, hR2, fr1.trans fr2⟩
  · simp at ha'
theorem RR.bind {α β α' β' : Type} {P : Program} {ρ : Ren} {R : Ren → α → β → Prop} {R' : Ren → α' → β' → Prop} {s : Sem α} {s' : Sem β} {f : α → Sem α'} {f' : β → Sem β'}
    (h : RR P ρ R s s') (hf : ∀ a a', R ρ a a' → RR P ρ R' (f a) (f' a')) : RR P ρ R' (s >>= f) (s' >>= f') := by
  intro hh w hw a h' ha
  have ha' : arun P (s.bind f) hh = some (a, h') := ha
  rw [arun_bind] at ha'
  split at ha'
  · rename_i x h1 hx
    obtain ⟨rfl, x', r1, hR⟩ := h hh w hw x h1 hx
    obtain ⟨rfl, a2, r2, hR2⟩ := hf x x' hR h1 w hw a h' ha'
    exact ⟨rfl, a2, by rw [Sem.run_bind, r1]; exact r2, hR2⟩
  · simp at ha'
theorem RR.pure {α β : Type} {P : Program} {ρ : Ren} {R : Ren → α → β → Prop} {a : α} {b : β} (h : R ρ a b) : RR P ρ R (Pure.pure a) (Pure.pure b) := by
  intro hh w hw x h' hx
  have hx' : some (a, hh) = some (x, h') := hx
  injection hx' with e
  injection e with e1 e2
  subst e1 e2
  exact ⟨rfl, b, rfl, h⟩
theorem SR.pure {α β : Type} {P : Program} {ρ : Ren} {R : Ren → α → β → Prop} {a : α} {b : β} (h : R ρ a b) : SR P ρ R (Pure.pure a) (Pure.pure b) := (RR.pure h).sr
theorem RR.halt {α β : Type} {P : Program} {ρ : Ren} {R : Ren → α → β → Prop} {x : Halt} {s' : Sem β} : RR P ρ R (.halt x : Sem α) s' := by
  intro hh w hw a h' ha
  simp [arun] at ha
theorem SR.halt {α β : Type} {P : Program} {ρ : Ren} {R : Ren → α → β → Prop} {x : Halt} {s' : Sem β} : SR P ρ R (.halt x : Sem α) s' := RR.halt.sr
theorem RR.program {P : Program} {ρ : Ren} : RR P ρ (fun _ a b => a = P ∧ b = P) program program := by
  intro hh w hw a h' ha
  have ha' : some (P, hh) = some (a, h') := ha
  injection ha' with e
  injection e with e1 e2
  subst e1 e2
  exact ⟨rfl, _, rfl, rfl, rfl⟩
end Go.Proofs.YtiffnkmbmenhfaaDoor.Run
/-! The primitives, and the meanings that the operations are made of. -/
namespace Go.Proofs.YtiffnkmbmenhfaaDoor.Run
open Go Go.RowKit
set_option linter.unusedVariables false
set_option linter.unusedSimpArgs false

theorem AH.get_put (h : AH) (k q : Nat) (x : Row) (hk : k < 1073741824) : (h.put k x).get q = if q = k then some x else h.get q := by
  cases h with
  | mk n r => exact Tr.get_set16 r k x q hk
theorem AH.next_put (h : AH) (k : Nat) (x : Row) : (h.put k x).next = h.next := by cases h; rfl
theorem AH.get_push (h : AH) (q : Nat) (x : Row) (hk : h.next < AH.lim) : (h.push x).get q = if q = h.next then some x else h.get q := by
  cases h with
  | mk n r => exact Tr.get_set16 r n x q (by simp only [AH.lim] at hk; omega)
theorem AH.next_push (h : AH) (x : Row) : (h.push x).next = h.next + 1 := by cases h; rfl

theorem vrel_ptr {ρ : Ren} {a : Addr} {v : Value} (h : VRel ρ (.pointer (some a)) v) : ∃ p, ρ a.block = some p ∧ v = .pointer (some ⟨p.b, a.off + p.s, none⟩) := by
  cases h with
  | ptr a p h => exact ⟨p, h, rfl⟩

/-- An address over rows, and one over blocks. -/
def ARel (ρ : Ren) (a a' : Addr) : Prop := ∃ p, ρ a.block = some p ∧ a' = ⟨p.b, a.off + p.s, none⟩
theorem ARel.add {ρ : Ren} {a a' : Addr} (h : ARel ρ a a') (n : Nat) : ARel ρ (a.add n) (a'.add n) := by
  obtain ⟨p, hp, rfl⟩ := h
  unfold Addr.add
  by_cases hn : n = 0
  · subst hn
    simp only [if_true]
    exact ⟨p, hp, rfl⟩
  · rw [if_neg hn, if_neg hn]
    exact ⟨p, hp, by simp only [Addr.mk.injEq, true_and, and_true]; omega⟩
theorem ARel.mono {ρ ρ' : Ren} (hle : ρ.le ρ') {a a' : Addr} (h : ARel ρ a a') : ARel ρ' a a' := let ⟨p, hp, e⟩ := h; ⟨p, hle _ _ hp, e⟩

def VR (ρ : Ren) (v v' : Value) : Prop := VRel ρ v v'

theorem WRel.cell {ρ : Ren} {h : AH} {w : World} (hw : WRel ρ h w) {a a' : Addr} (ha : ARel ρ a a') {v : Value} (hv : h.cell a = some v) : ∃ v', w.cell? a' = some v' ∧ VRel ρ v v' := by
  obtain ⟨p, hp, rfl⟩ := ha
  unfold AH.cell at hv
  split at hv
  · rename_i cs hg
    exact hw.row _ _ _ hp hg _ _ hv
  · rename_i cs hg
    exact (hw.row _ _ _ hp hg).1 _ _ hv
  · simp at hv
theorem RR.load {P : Program} {ρ : Ren} {a a' : Addr} (ha : ARel ρ a a') : RR P ρ VR (load a) (load a') := by
  intro hh w hw v h' hv
  simp only [Go.load, arun] at hv
  cases hc : hh.cell a with
  | none => rw [hc] at hv; simp at hv
  | some u =>
    rw [hc] at hv
    simp only [arun, Option.some.injEq, Prod.mk.injEq] at hv
    obtain ⟨rfl, rfl⟩ := hv
    obtain ⟨v', h1, h2⟩ := hw.cell ha hc
    exact ⟨rfl, v', by rw [run_load, h1], h2⟩

theorem VRel.oneCell {ρ : Ren} {v v' : Value} (h : VRel ρ v v') : v.oneCell' = v'.oneCell' := by cases h <;> rfl

theorem WRel.setCell {ρ : Ren} {h h' : AH} {w : World} (hw : WRel ρ h w) {a a' : Addr} (ha : ARel ρ a a') {v v' : Value} (hv : VRel ρ v v') (hs : h.setCell a v = some h') :
    (∃ u, w.cell? a' = some u) ∧ w.frozen? a' = false ∧ WRel ρ h' (w.setCell a' v') ∧ Fr ρ h w ρ h' (w.setCell a' v') := by
  obtain ⟨p, hp, rfl⟩ := ha
  unfold AH.setCell at hs
  split at hs
  · rename_i cs hg
    split at hs
    · rename_i hlt
      injection hs with hs
      subst hs
      have hk : a.block < 1073741824 := by
        have := hw.old _ _ hp
        have := hw.lim
        simp only [AH.lim] at this
        omega
      have hr := hw.row _ _ _ hp hg
      obtain ⟨u', hu, _⟩ := hr.1 a.off cs[a.off] (List.getElem?_eq_getElem hlt)
      have hget : ∀ q, (h.put a.block (.rw (cs.set a.off v))).get q = if q = a.block then some (.rw (cs.set a.off v)) else h.get q := fun q => AH.get_put _ _ _ _ hk
      have hfr : Fr ρ h w ρ (h.put a.block (.rw (cs.set a.off v))) (w.setCell ⟨p.b, a.off + p.s, none⟩ v') := by
        refine ⟨rfl, rfl, rfl, by simp, Ren.le_refl ρ, fun b hb hn => ⟨?_, ?_⟩, by rw [AH.next_put]; exact Nat.le_refl _, fun k _ e => ⟨e, by rw [hget, if_neg (by rintro rfl; rw [hp] at e; cases e)]⟩⟩
        · refine Below.heap_setCell _ _ _ _ ?_
          rintro rfl
          exact hn ⟨a.block, p, hp, rfl, fun cs' hc => by rw [hg] at hc; cases hc⟩
        · rintro ⟨x, q, hq, hqb, hro⟩
          refine hn ⟨x, q, hq, hqb, fun cs' hc => ?_⟩
          by_cases hx : x = a.block
          · subst hx; rw [hg] at hc; cases hc
          · exact hro cs' (by rw [hget, if_neg hx]; exact hc)
      refine ⟨⟨u', hu⟩, hr.2.2.1 _, ?_, hfr⟩
      refine ⟨by rw [AH.next_put]; exact hw.lim, fun x q hq => by rw [AH.next_put]; exact hw.old x q hq, fun x q hq => by rw [World.size_setCell]; exact hw.low x q hq, ?_, ?_⟩
      · intro x q r hq hr'
        rw [hget] at hr'
        by_cases hx : x = a.block
        · subst hx
          rw [if_pos rfl] at hr'
          injection hr' with hr'
          subst hr'
          rw [hp] at hq
          injection hq with hq
          subst hq
          refine ⟨?_, ?_, ?_, by rw [List.length_set]; exact hr.2.2.2⟩
          · intro i y hy
            by_cases hi : i = a.off
            · subst hi
              rw [List.getElem?_set_self hlt] at hy
              injection hy with hy
              subst hy
              exact ⟨v', World.cell?_setCell_same w _ _ hu, hv⟩
            · rw [List.getElem?_set_ne (by omega)] at hy
              obtain ⟨y', h1, h2⟩ := hr.1 i y hy
              exact ⟨y', by rw [World.cell?_setCell_other _ _ _ _ (by intro e; injection e with e1 e2 e3; omega)]; exact h1, h2⟩
          · intro j hj
            by_cases hjo : j = a.off + p.s
            · subst hjo
              rw [World.cell?_setCell_same w _ _ hu]
              rfl
            · rw [World.cell?_setCell_other _ _ _ _ (by intro e; injection e with e1 e2 e3; omega)]
              exact hr.2.1 j hj
          · intro j
            rw [World.frozen?_setCell]
            exact hr.2.2.1 j
        · rw [if_neg hx] at hr'
          by_cases hb : q.b = p.b
          · rcases hw.inj x a.block q p hq hp hb hx with hd | hd
            · rw [hd] at hr'
              injection hr' with hr'
              subst hr'
              trivial
            · rw [hg] at hd; cases hd
          · exact RowRel.mono (Ren.le_refl ρ) (Below.heap_setCell _ _ _ _ hb) (hw.row x q r hq hr')
      · intro x y q q' hx hy hb hne
        rcases hw.inj x y q q' hx hy hb hne with hd | hd
        · left
          rw [hget, if_neg]
          · exact hd
          · rintro rfl; rw [hg] at hd; cases hd
        · right
          rw [hget, if_neg]
          · exact hd
          · rintro rfl; rw [hg] at hd; cases hd
    · simp at hs
  · simp at hs
def UR (ρ : Ren) (_ _ : Unit) : Prop := True
theorem SR.store {P : Program} {ρ : Ren} {a a' : Addr} (ha : ARel ρ a a') {v v' : Value} (hv : VRel ρ v v') : SR P ρ UR (store a v) (store a' v') := by
  intro hh w hw x h' hx
  have key : v.oneCell' = true ∧ hh.setCell a v = some h' := by
    simp only [Go.store, arun] at hx
    cases v <;> simp only at hx <;> first
      | (simp at hx; done)
      | (cases hs : hh.setCell a _ with
         | none => rw [hs] at hx; simp at hx
         | some h1 =>
           rw [hs] at hx
           simp only [arun, Option.some.injEq, Prod.mk.injEq] at hx
           exact ⟨rfl, by rw [hx.2]⟩)
  obtain ⟨⟨u, hu⟩, hf, hw', hfr⟩ := hw.setCell ha hv key.2
  refine ⟨ρ, (), w.setCell a' v', ?_, hw', trivial, hfr⟩
  rw [run_store _ _ _ _ _ (by rw [← hv.oneCell]; exact key.1), hu]
  simp [hf]
end Go.Proofs.YtiffnkmbmenhfaaDoor.Run
/-! New rows, objects, and the meanings that the operations are made of. -/
namespace Go.Proofs.YtiffnkmbmenhfaaDoor.Run
open Go Go.RowKit
set_option linter.unusedVariables false
set_option linter.unusedSimpArgs false

/-! ### values -/
theorem ground_rel (ρ : Ren) : ∀ (n : Nat) (v : Value), ground n v = true → VRel ρ v v := by
  have base : ∀ (n : Nat) (v : Value), (∀ cs, v ≠ .agg cs) → ground n v = true → VRel ρ v v := by
    intro n v hn h
    cases v with
    | bool b => exact .bool b
    | int k m => exact .int k m
    | float k m => exact .float k m
    | string s => exact .string s
    | pointer a => cases a with
      | none => exact .nilPtr
      | some a => cases n <;> simp [ground] at h
    | slice a l c => cases a with
      | none =>
        cases l with
        | zero => cases c with
          | zero => exact .nilSlice
          | succ c => cases n <;> simp [ground] at h
        | succ l => cases n <;> simp [ground] at h
      | some a => cases n <;> simp [ground] at h
    | map r => cases r with
      | none => exact .nilMap
      | some r => cases n <;> simp [ground] at h
    | nilFunc => exact .nilFunc
    | nilIface => exact .nilIface
    | agg cs => exact absurd rfl (hn cs)
    | _ => cases n <;> simp [ground] at h
  intro n
  induction n with
  | zero =>
    intro v h
    refine base 0 v (fun cs e => ?_) h
    subst e
    simp [ground] at h
  | succ n ih =>
    intro v h
    cases v with
    | agg cs =>
      simp only [ground, List.all_eq_true] at h
      refine .agg cs cs rfl fun i u v hu hv => ?_
      rw [hu] at hv
      injection hv with hv
      subst hv
      exact ih u (h u (by obtain ⟨hi, e⟩ := Array.getElem?_eq_some_iff.1 hu; rw [← e]; exact Array.getElem_mem_toList hi))
    | _ => exact base (n + 1) _ (fun cs e => by cases e) h

theorem AsRel.nil (ρ : Ren) : AsRel ρ #[] #[] := ⟨rfl, fun i u v h => by simp at h⟩
theorem AsRel.push {ρ : Ren} {x x' : Array Value} (h : AsRel ρ x x') {v v' : Value} (hv : VRel ρ v v') : AsRel ρ (x.push v) (x'.push v') := by
  refine ⟨by simp [h.1], fun i a b ha hb => ?_⟩
  rw [Array.getElem?_push] at ha hb
  rw [← h.1] at hb
  by_cases hi : i = x.size
  · rw [if_pos hi] at ha hb
    injection ha with ha
    injection hb with hb
    subst ha hb
    exact hv
  · rw [if_neg hi] at ha hb
    exact h.2 i a b ha hb
theorem AsRel.one {ρ : Ren} {v v' : Value} (hv : VRel ρ v v') : AsRel ρ #[v] #[v'] := (AsRel.nil ρ).push hv
theorem AsRel.append {ρ : Ren} {x x' y y' : Array Value} (h : AsRel ρ x x') (k : AsRel ρ y y') : AsRel ρ (x ++ y) (x' ++ y') := by
  refine ⟨by simp [h.1, k.1], fun i a b ha hb => ?_⟩
  rw [Array.getElem?_append] at ha hb
  rw [← h.1] at hb
  by_cases hi : i < x.size
  · rw [if_pos hi] at ha hb
    exact h.2 i a b ha hb
  · rw [if_neg hi] at ha hb
    exact k.2 _ a b ha hb
theorem AsRel.extract {ρ : Ren} {x x' : Array Value} (h : AsRel ρ x x') (a b : Nat) : AsRel ρ (x.extract a b) (x'.extract a b) := by
  refine ⟨by simp [h.1], fun i u v hu hv => ?_⟩
  rw [Array.getElem?_extract] at hu hv
  split at hu
  · split at hv
    · exact h.2 _ _ _ hu hv
    · simp at hv
  · simp at hu
theorem AsRel.toList {ρ : Ren} {x x' : Array Value} (h : AsRel ρ x x') : LsRel ρ x.toList x'.toList :=
  ⟨by simpa using h.1, fun i u v hu hv => h.2 i u v (by simpa using hu) (by simpa using hv)⟩
theorem LsRel.toArray {ρ : Ren} {x x' : List Value} (h : LsRel ρ x x') : AsRel ρ x.toArray x'.toArray :=
  ⟨by simpa using h.1, fun i u v hu hv => h.2 i u v (by simpa using hu) (by simpa using hv)⟩
theorem LsRel.append {ρ : Ren} {x x' y y' : List Value} (h : LsRel ρ x x') (k : LsRel ρ y y') : LsRel ρ (x ++ y) (x' ++ y') := by
  refine ⟨by simp [h.1, k.1], fun i a b ha hb => ?_⟩
  rw [List.getElem?_append] at ha hb
  rw [← h.1] at hb
  by_cases hi : i < x.length
  · rw [if_pos hi] at ha hb
    exact h.2 i a b ha hb
  · rw [if_neg hi] at ha hb
    exact k.2 _ a b ha hb
theorem LsRel.tail {ρ : Ren} {v v' : Value} {x x' : List Value} (h : LsRel ρ (v :: x) (v' :: x')) : VRel ρ v v' ∧ LsRel ρ x x' :=
  ⟨h.2 0 v v' rfl rfl, by simpa using h.1, fun i a b ha hb => h.2 (i + 1) a b ha hb⟩
theorem AsRel.get {ρ : Ren} {x x' : Array Value} (h : AsRel ρ x x') {i : Nat} {v : Value} (hv : x[i]? = some v) : ∃ v', x'[i]? = some v' ∧ VRel ρ v v' := by
  have hi := (Array.getElem?_eq_some_iff.1 hv).1
  have hi' : i < x'.size := h.1 ▸ hi
  exact ⟨x'[i], Array.getElem?_eq_getElem hi', h.2 i v _ hv (Array.getElem?_eq_getElem hi')⟩
theorem VRel.cells {ρ : Ren} {v v' : Value} (h : VRel ρ v v') : AsRel ρ v.cells v'.cells := by
  cases h with
  | agg x x' hx h => exact ⟨hx, h⟩
  | _ => exact AsRel.one (by constructor <;> assumption)

/-! ### meanings without memory -/
def ER {α : Type} (_ : Ren) (a b : α) : Prop := a = b
theorem RR.stops {α β : Type} {P : Program} {ρ : Ren} {R : Ren → α → β → Prop} {s : Sem α} {s' : Sem β} (h : ∀ hh, arun P s hh = none) : RR P ρ R s s' := by
  intro hh w hw a h' ha
  rw [h] at ha
  simp at ha
theorem RR.ite {α β : Type} {P : Program} {ρ : Ren} {R : Ren → α → β → Prop} {c : Prop} [Decidable c] {a b : Sem α} {a' b' : Sem β} (h : c → RR P ρ R a a') (k : ¬ c → RR P ρ R b b') :
    RR P ρ R (if c then a else b) (if c then a' else b') := by
  by_cases hc : c
  · rw [if_pos hc, if_pos hc]; exact h hc
  · rw [if_neg hc, if_neg hc]; exact k hc
theorem SR.ite {α β : Type} {P : Program} {ρ : Ren} {R : Ren → α → β → Prop} {c : Prop} [Decidable c] {a b : Sem α} {a' b' : Sem β} (h : c → SR P ρ R a a') (k : ¬ c → SR P ρ R b b') :
    SR P ρ R (if c then a else b) (if c then a' else b') := by
  by_cases hc : c
  · rw [if_pos hc, if_pos hc]; exact h hc
  · rw [if_neg hc, if_neg hc]; exact k hc
theorem RR.underlying {P : Program} {ρ : Ren} (t : TypeId) : RR P ρ (fun _ a b => a = b ∧ P.underlying t = some a) (underlying t) (underlying t) := by
  refine RR.bind RR.program fun a b ⟨e1, e2⟩ => ?_
  subst e1
  subst e2
  cases h : b.underlying t with
  | none => exact RR.halt
  | some d => exact RR.pure ⟨rfl, rfl⟩
theorem RR.typeInfo {P : Program} {ρ : Ren} (t : TypeId) : RR P ρ (fun _ a b => a = b ∧ P.info? t = some a) (typeInfo t) (typeInfo t) := by
  refine RR.bind RR.program fun a b ⟨e1, e2⟩ => ?_
  subst e1
  subst e2
  cases h : b.info? t with
  | none => exact RR.halt
  | some d => exact RR.pure ⟨rfl, rfl⟩
theorem RR.sizeOf {P : Program} {ρ : Ren} (t : TypeId) : RR P ρ ER (sizeOf t) (sizeOf t) :=
  RR.bind (RR.typeInfo t) fun a b ⟨e, _⟩ => RR.pure (by rw [e]; rfl)
theorem RR.isAgg {P : Program} {ρ : Ren} (t : TypeId) : RR P ρ ER (isAgg t) (isAgg t) := by
  refine RR.bind (RR.underlying t) fun a b ⟨e, _⟩ => ?_
  subst e
  cases a <;> exact RR.pure rfl
theorem RR.zeroValue {P : Program} {ρ : Ren} {t : TypeId} (hz : zeroOk P t = true) : RR P ρ (fun ρ a b => a = b ∧ VRel ρ a b ∧ ∃ i, P.info? t = some i ∧ i.zero = some a) (zeroValue t) (zeroValue t) := by
  refine RR.bind (RR.typeInfo t) fun a b ⟨e, hi⟩ => ?_
  subst e
  unfold zeroOk at hz
  cases h : a.zero with
  | none => exact RR.halt
  | some z =>
    simp only [hi, h] at hz
    exact RR.pure ⟨rfl, ground_rel _ 8 z hz, a, hi, h⟩
theorem RR.asIntOf {P : Program} {ρ : Ren} {v v' : Value} (h : VRel ρ v v') : RR P ρ (fun _ a b => a = b ∧ v = .int a.1 a.2) (asIntOf v) (asIntOf v') := by
  cases h <;> first
    | exact RR.halt
    | exact RR.pure ⟨rfl, rfl⟩
theorem RR.asInt {P : Program} {ρ : Ren} {v v' : Value} (h : VRel ρ v v') : RR P ρ ER (asInt v) (asInt v') :=
  RR.bind (RR.asIntOf h) fun a b ⟨e, _⟩ => RR.pure (by rw [e]; rfl)
theorem RR.asBool {P : Program} {ρ : Ren} {v v' : Value} (h : VRel ρ v v') : RR P ρ ER (asBool v) (asBool v') := by
  cases h <;> first
    | exact RR.halt
    | exact RR.pure rfl
theorem RR.asString {P : Program} {ρ : Ren} {v v' : Value} (h : VRel ρ v v') : RR P ρ ER (asString v) (asString v') := by
  cases h <;> first
    | exact RR.halt
    | exact RR.pure rfl
theorem RR.asAgg {P : Program} {ρ : Ren} {v v' : Value} (h : VRel ρ v v') : RR P ρ AsRel (asAgg v) (asAgg v') := by
  cases h with
  | agg x x' hx h => exact RR.pure ⟨hx, h⟩
  | _ => exact RR.halt
theorem RR.sureAddr {P : Program} {ρ : Ren} {v v' : Value} (h : VRel ρ v v') : RR P ρ ARel (Instr.sureAddr v) (Instr.sureAddr v') := by
  cases h with
  | ptr a p h => exact RR.pure ⟨p, h, rfl⟩
  | _ => exact RR.halt
/-- Over rows it does not end. -/
def Stops {α : Type} (P : Program) (s : Sem α) : Prop := ∀ h, arun P s h = none
theorem Stops.bind {α β : Type} {P : Program} {s : Sem α} {f : α → Sem β} (h : ∀ a, Stops P (f a)) : Stops P (s >>= f) := by
  intro hh
  show arun P (s.bind f) hh = none
  rw [arun_bind]
  split
  · exact h _ _
  · rfl
theorem Stops.first {α β : Type} {P : Program} {s : Sem α} {f : α → Sem β} (h : Stops P s) : Stops P (s >>= f) := by
  intro hh
  show arun P (s.bind f) hh = none
  rw [arun_bind, h hh]
theorem Stops.halt {α : Type} {P : Program} {x : Halt} : Stops P (.halt x : Sem α) := fun _ => rfl
theorem Stops.rr {α β : Type} {P : Program} {ρ : Ren} {R : Ren → α → β → Prop} {s : Sem α} {s' : Sem β} (h : Stops P s) : RR P ρ R s s' := RR.stops h
theorem Stops.panic {α : Type} {P : Program} (e : RuntimeError) : Stops P (runtimePanic e : Sem α) := by
  refine Stops.bind fun p => ?_
  cases e with
  | typeAssertion i c a m => exact Stops.bind fun _ => Stops.bind fun _ => Stops.halt
  | panicNil => exact Stops.bind fun _ => Stops.bind fun _ => Stops.halt
  | _ => exact Stops.halt
theorem Stops.bounds {α : Type} {P : Program} (k : IntKind) (x y : Int) (c : BoundsCode) : Stops P (boundsPanic k x y c : Sem α) := by
  unfold boundsPanic
  dsimp only
  split
  · exact Stops.bind fun _ => Stops.panic _
  · first
      | exact Stops.panic _
      | exact Stops.bind fun _ => Stops.panic _
theorem RR.part {P : Program} {ρ : Ren} (t : TypeId) {x x' : Array Value} (h : AsRel ρ x x') (off : Nat) : RR P ρ VR (part t x off) (part t x' off) := by
  refine RR.bind (RR.isAgg t) fun a b e => ?_
  have e : a = b := e
  subst e
  cases a with
  | true =>
    refine RR.bind (RR.sizeOf t) fun n m e => ?_
    have e : n = m := e
    subst e
    exact RR.pure (.agg _ _ (h.extract _ _).1 (h.extract _ _).2)
  | false =>
    rw [if_neg (by simp), if_neg (by simp)]
    cases hv : x[off]? with
    | none => exact RR.halt
    | some v =>
      obtain ⟨v', h1, h2⟩ := h.get hv
      rw [h1]
      exact RR.pure h2

/-! ### cells -/
theorem RR.loadCellsFrom {P : Program} {ρ : Ren} {a a' : Addr} (ha : ARel ρ a a') : ∀ (n i : Nat) (x x' : Array Value), AsRel ρ x x' → RR P ρ AsRel (loadCellsFrom a i n x) (loadCellsFrom a' i n x') := by
  intro n
  induction n with
  | zero => exact fun i x x' h => RR.pure h
  | succ n ih =>
    intro i x x' h
    exact RR.bind (RR.load (ha.add i)) fun v v' hv => ih (i + 1) _ _ (h.push hv)
theorem RR.loadCells {P : Program} {ρ : Ren} {a a' : Addr} (ha : ARel ρ a a') (n : Nat) : RR P ρ AsRel (loadCells a n) (loadCells a' n) := RR.loadCellsFrom ha n 0 _ _ (AsRel.nil ρ)
theorem RR.loadVar {P : Program} {ρ : Ren} (t : TypeId) {a a' : Addr} (ha : ARel ρ a a') : RR P ρ VR (loadVar t a) (loadVar t a') := by
  refine RR.bind (RR.isAgg t) fun x y e => ?_
  have e : x = y := e
  subst e
  cases x with
  | true =>
    refine RR.bind (RR.sizeOf t) fun n m e => ?_
    have e : n = m := e
    subst e
    exact RR.bind (RR.loadCells ha n) fun c c' hc => RR.pure (.agg _ _ hc.1 hc.2)
  | false => exact RR.load ha
theorem SR.storeCells {P : Program} : ∀ (vs vs' : List Value) (ρ : Ren) (a a' : Addr) (i : Nat), ARel ρ a a' → LsRel ρ vs vs' → SR P ρ UR (storeCells a vs i) (storeCells a' vs' i) := by
  intro vs
  induction vs with
  | nil =>
    intro vs' ρ a a' i ha h
    cases vs' with
    | nil => exact SR.pure trivial
    | cons v vs' => exact absurd h.1 (by simp)
  | cons v vs ih =>
    intro vs' ρ a a' i ha h
    cases vs' with
    | nil => exact absurd h.1 (by simp)
    | cons v' vs' => exact SR.bind (SR.store (ha.add i) h.tail.1) fun ρ' _ _ hle _ => ih vs' ρ' a a' (i + 1) (ha.mono hle) (h.tail.2.mono hle)
theorem SR.storeVar {P : Program} {ρ : Ren} (t : TypeId) {a a' : Addr} (ha : ARel ρ a a') {v v' : Value} (hv : VRel ρ v v') : SR P ρ UR (storeVar t a v) (storeVar t a' v') := by
  refine SR.bind (RR.sizeOf t).sr fun ρ' n m hle e => ?_
  have e : n = m := e
  subst e
  have hs : v.cells.size = v'.cells.size := hv.cells.1
  rw [← hs]
  by_cases hc : v.cells.size ≠ n
  · simp only [if_pos hc]
    exact SR.halt
  · simp only [if_neg hc]
    exact SR.storeCells _ _ ρ' a a' 0 (ha.mono hle) (hv.cells.mono hle).toList
end Go.Proofs.YtiffnkmbmenhfaaDoor.Run
/-! New rows and objects. -/
namespace Go.Proofs.YtiffnkmbmenhfaaDoor.Run
open Go Go.RowKit
set_option linter.unusedVariables false
set_option linter.unusedSimpArgs false

def Ren.with (ρ : Ren) (k : Nat) (p : Spot) : Ren := fun x => if x = k then some p else ρ x
theorem Ren.with_same (ρ : Ren) (k : Nat) (p : Spot) : (ρ.with k p) k = some p := by simp [Ren.with]
theorem Ren.with_le {ρ : Ren} {k : Nat} {p : Spot} (h : ρ k = none) : ρ.le (ρ.with k p) := by
  intro a q hq
  unfold Ren.with
  rw [if_neg]
  · exact hq
  · rintro rfl; rw [h] at hq; cases hq

/-- A new row stands for a new block. -/
theorem WRel.push {ρ : Ren} {h : AH} {w : World} (hw : WRel ρ h w) (hl : h.next < AH.lim) (r : Row) (o : Obj) (e : Nat) (hro : ∀ cs, r ≠ .ro cs)
    (hr : RowRel ρ (w.alloc o) ⟨w.heap.size, 0, e⟩ r) :
    WRel (ρ.with h.next ⟨w.heap.size, 0, e⟩) (h.push r) (w.alloc o) ∧ Fr ρ h w (ρ.with h.next ⟨w.heap.size, 0, e⟩) (h.push r) (w.alloc o) := by
  have hnone : ρ h.next = none := by
    cases hx : ρ h.next with
    | none => rfl
    | some p => exact absurd (hw.old _ _ hx) (Nat.lt_irrefl _)
  have hle := Ren.with_le (p := ⟨w.heap.size, 0, e⟩) hnone
  have hget : ∀ q, (h.push r).get q = if q = h.next then some r else h.get q := fun q => AH.get_push h q r hl
  refine ⟨⟨?_, ?_, ?_, ?_, ?_⟩, rfl, rfl, rfl, by simp, hle, ?_, by rw [AH.next_push]; exact Nat.le_succ _, fun k hk e => ⟨by unfold Ren.with; rw [if_neg (by omega)]; exact e, by rw [hget, if_neg (by omega)]⟩⟩
  · rw [AH.next_push]; exact hl
  · intro a p hp
    rw [AH.next_push]
    unfold Ren.with at hp
    split at hp
    · omega
    · have := hw.old a p hp; omega
  · intro a p hp
    rw [World.size_alloc]
    unfold Ren.with at hp
    split at hp
    · injection hp with hp; subst hp; exact Nat.lt_succ_self _
    · have := hw.low a p hp; omega
  · intro a p q hp hq
    rw [hget] at hq
    unfold Ren.with at hp
    by_cases ha : a = h.next
    · rw [if_pos ha] at hp hq
      injection hp with hp
      injection hq with hq
      subst hp hq
      exact RowRel.mono hle rfl hr
    · rw [if_neg ha] at hp hq
      exact RowRel.mono hle (Below.heap_alloc _ _ _ (hw.low a p hp)) (hw.row a p q hp hq)
  · intro a a' p p' hp hp' hb hne
    unfold Ren.with at hp hp'
    rw [hget, hget]
    by_cases ha : a = h.next
    · rw [if_pos ha] at hp
      injection hp with hp
      by_cases ha' : a' = h.next
      · exact absurd (ha.trans ha'.symm) hne
      · rw [if_neg ha'] at hp'
        have := hw.low _ _ hp'
        rw [← hp] at hb
        simp only at hb
        omega
    · rw [if_neg ha] at hp
      by_cases ha' : a' = h.next
      · rw [if_pos ha'] at hp'
        injection hp' with hp'
        have := hw.low _ _ hp
        rw [← hp'] at hb
        simp only at hb
        omega
      · rw [if_neg ha'] at hp'
        rw [if_neg ha, if_neg ha']
        exact hw.inj a a' p p' hp hp' hb hne
  · intro b hb hn
    refine ⟨Below.heap_alloc _ _ _ hb, ?_⟩
    rintro ⟨a, p, hp, hpb, hro'⟩
    unfold Ren.with at hp
    by_cases ha : a = h.next
    · rw [if_pos ha] at hp
      injection hp with hp
      rw [← hp] at hpb
      simp only at hpb
      omega
    · rw [if_neg ha] at hp
      refine hn ⟨a, p, hp, hpb, fun cs hc => hro' cs ?_⟩
      rw [hget, if_neg ha]
      exact hc
theorem rowRel_new {ρ : Ren} {w : World} {cs cs' : Array Value} (h : AsRel ρ cs cs') (t : TypeId) : RowRel ρ (w.alloc (.cells cs' t)) ⟨w.heap.size, 0, cs'.size⟩ (.rw cs.toList) := by
  refine ⟨?_, ?_, ?_, ?_⟩
  · intro i v hv
    obtain ⟨v', h1, h2⟩ := h.get (by simpa using hv : cs[i]? = some v)
    exact ⟨v', by rw [Nat.add_zero, World.cell?_alloc_new]; exact h1, h2⟩
  · intro j hj
    rw [World.cell?_alloc_new, Array.getElem?_eq_getElem hj]
    rfl
  · intro j
    exact World.frozen?_alloc_new _ _ _ _
  · simp [h.1]
theorem SR.newRow {P : Program} {ρ : Ren} (t : TypeId) {cs cs' : Array Value} (h : AsRel ρ cs cs') : SR P ρ ARel (newRow t cs) (newRow t cs') := by
  intro hh w hw a h' ha
  have ha' : arun P (Sem.new (.cells cs t) fun r => .pure ⟨r, 0, none⟩) hh = some (a, h') := ha
  simp only [arun] at ha'
  split at ha'
  · rename_i hl
    simp only [Option.some.injEq, Prod.mk.injEq] at ha'
    obtain ⟨rfl, rfl⟩ := ha'
    obtain ⟨h1, h2⟩ := hw.push hl (.rw cs.toList) (.cells cs' t) cs'.size (fun _ e => by cases e) (rowRel_new h t)
    exact ⟨_, _, _, rfl, h1, ⟨_, Ren.with_same _ _ _, rfl⟩, h2⟩
  · simp at ha'
theorem SR.newVar {P : Program} {ρ : Ren} (t : TypeId) {v v' : Value} (h : VRel ρ v v') : SR P ρ ARel (newVar t v) (newVar t v') := SR.newRow t h.cells
def OBR (ρ : Ren) (a a' : Nat) : Prop := ∃ p, ρ a = some p ∧ a' = p.b ∧ p.s = 0
theorem SR.newMap {P : Program} {ρ : Ren} : SR P ρ OBR (newObj (.map #[] 0)) (newObj (.map #[] 0)) := by
  intro hh w hw a h' ha
  simp only [newObj, arun] at ha
  split at ha
  · rename_i hl
    simp only [Option.some.injEq, Prod.mk.injEq] at ha
    obtain ⟨rfl, rfl⟩ := ha
    obtain ⟨h1, h2⟩ := hw.push hl (.obj (.map #[] 0)) (.map #[] 0) 0 (fun _ e => by cases e) ⟨rfl, _, heap_alloc_new w _, .map _ _ 0 ⟨rfl, fun i e e' h => by simp at h⟩⟩
    exact ⟨_, _, _, rfl, h1, ⟨_, Ren.with_same _ _ _, rfl, rfl⟩, h2⟩
  · simp at ha
theorem SR.newIter {P : Program} {ρ : Ren} (s : ByteArray) (n : Nat) : SR P ρ OBR (newObj (.stringIter s n)) (newObj (.stringIter s n)) := by
  intro hh w hw a h' ha
  simp only [newObj, arun] at ha
  split at ha
  · rename_i hl
    simp only [Option.some.injEq, Prod.mk.injEq] at ha
    obtain ⟨rfl, rfl⟩ := ha
    obtain ⟨h1, h2⟩ := hw.push hl (.obj (.stringIter s n)) (.stringIter s n) 0 (fun _ e => by cases e) ⟨rfl, _, heap_alloc_new w _, .iter s n⟩
    exact ⟨_, _, _, rfl, h1, ⟨_, Ren.with_same _ _ _, rfl, rfl⟩, h2⟩
  · simp at ha
theorem RR.getObj {P : Program} {ρ : Ren} {r r' : Nat} (p : Spot) (hp : ρ r = some p) (hr : r' = p.b) : RR P ρ ORel (getObj r) (getObj r') := by
  intro hh w hw o h' ho
  simp only [Go.getObj, arun] at ho
  split at ho
  · rename_i o1 hg
    simp only [Option.some.injEq, Prod.mk.injEq] at ho
    obtain ⟨rfl, rfl⟩ := ho
    obtain ⟨_, o', h1, h2⟩ := hw.row r p _ hp hg
    refine ⟨rfl, o', ?_, h2⟩
    subst hr
    simp only [Go.getObj, Sem.run, h1]
    cases h2 <;> rfl
  · simp at ho
theorem SR.setObj {P : Program} {ρ : Ren} {r r' : Nat} (p : Spot) (hp : ρ r = some p) (hr : r' = p.b) {o o' : Obj} (ho : ORel ρ o o') : SR P ρ UR (setObj r o) (setObj r' o') := by
  intro hh w hw x h' hx
  subst hr
  have key : (∃ o1, hh.get r = some (.obj o1)) ∧ h' = hh.put r (.obj o) := by
    simp only [Go.setObj, arun] at hx
    split at hx
    · rename_i o1 hg
      cases ho <;> (simp only [Option.some.injEq, Prod.mk.injEq] at hx; exact ⟨⟨o1, hg⟩, hx.2.symm⟩)
    · simp at hx
  obtain ⟨⟨o1, hg⟩, rfl⟩ := key
  obtain ⟨hs, o2, h1, h2⟩ := hw.row r p _ hp hg
  have hk : r < 1073741824 := by
    have := hw.old _ _ hp
    have := hw.lim
    simp only [AH.lim] at this
    omega
  have hget : ∀ q, (hh.put r (.obj o)).get q = if q = r then some (.obj o) else hh.get q := fun q => AH.get_put _ _ _ _ hk
  have hb : p.b < w.heap.size := hw.low r p hp
  have hother : ∀ b, b ≠ p.b → (w.heap.setIfInBounds p.b o')[b]? = w.heap[b]? := fun b hne => by rw [Array.getElem?_setIfInBounds_ne (Ne.symm hne)]
  refine ⟨ρ, (), { w with heap := w.heap.setIfInBounds p.b o' }, ?_, ?_, trivial, ?_⟩
  · simp only [Go.setObj, Sem.run, h1]
    cases h2 <;> rfl
  · refine ⟨by rw [AH.next_put]; exact hw.lim, fun a q hq => by rw [AH.next_put]; exact hw.old a q hq, fun a q hq => by simpa using hw.low a q hq, ?_, ?_⟩
    · intro a q r2 hq hr2
      rw [hget] at hr2
      by_cases ha : a = r
      · subst ha
        rw [if_pos rfl] at hr2
        injection hr2 with hr2
        subst hr2
        rw [hp] at hq
        injection hq with hq
        subst hq
        exact ⟨hs, o', by simp [hb], ho⟩
      · rw [if_neg ha] at hr2
        by_cases hbb : q.b = p.b
        · rcases hw.inj a r q p hq hp hbb ha with hd | hd
          · rw [hd] at hr2
            injection hr2 with hr2
            subst hr2
            trivial
          · rw [hg] at hd; cases hd
        · exact RowRel.mono (Ren.le_refl ρ) (hother _ hbb) (hw.row a q r2 hq hr2)
    · intro a a' q q' ha ha' hbb hne
      rcases hw.inj a a' q q' ha ha' hbb hne with hd | hd
      · left
        rw [hget, if_neg]
        · exact hd
        · rintro rfl; rw [hg] at hd; cases hd
      · right
        rw [hget, if_neg]
        · exact hd
        · rintro rfl; rw [hg] at hd; cases hd
  · refine ⟨rfl, rfl, rfl, by simp, Ren.le_refl ρ, fun b hb' hn => ⟨?_, ?_⟩, by rw [AH.next_put]; exact Nat.le_refl _, fun k _ e => ⟨e, by rw [hget, if_neg (by rintro rfl; rw [hp] at e; cases e)]⟩⟩
    · refine hother b ?_
      rintro rfl
      exact hn ⟨r, p, hp, rfl, fun cs hc => by rw [hg] at hc; cases hc⟩
    · rintro ⟨a, q, hq, hqb, hro⟩
      refine hn ⟨a, q, hq, hqb, fun cs hc => ?_⟩
      by_cases ha : a = r
      · subst ha; rw [hg] at hc; cases hc
      · exact hro cs (by rw [hget, if_neg ha]; exact hc)
end Go.Proofs.YtiffnkmbmenhfaaDoor.Run
/-! One lemma for each operation. -/
namespace Go.Proofs.YtiffnkmbmenhfaaDoor.Run
open Go Go.RowKit
set_option linter.unusedVariables false
set_option linter.unusedSimpArgs false

inductive TRel (ρ : Ren) : Target → Target → Prop
  | fn (f : Fn) (c c' : Array Value) (h : AsRel ρ c c') : TRel ρ (.fn f c) (.fn f c')
  | nil : TRel ρ .nil .nil
def DRel (ρ : Ren) (d d' : Deferred) : Prop := TRel ρ d.target d'.target ∧ AsRel ρ d.args d'.args
theorem DRel.mono {ρ ρ' : Ren} (hle : ρ.le ρ') {d d' : Deferred} (h : DRel ρ d d') : DRel ρ' d d' := by
  refine ⟨?_, h.2.mono hle⟩
  have h1 := h.1
  revert h1
  generalize d.target = t
  generalize d'.target = t'
  intro h1
  cases h1 with
  | fn f c c' h => exact .fn f c c' (h.mono hle)
  | nil => exact .nil
inductive NR (ρ : Ren) : Next → Next → Prop
  | value (v v' : Value) (h : VRel ρ v v') : NR ρ (.value v) (.value v')
  | skip : NR ρ .skip .skip
  | enter (f : FuncId) (a a' : Array Value) (h : AsRel ρ a a') : NR ρ (.enter f a) (.enter f a')
  | defer (d d' : Deferred) (h : DRel ρ d d') : NR ρ (.defer d) (.defer d')

theorem SR.v {P : Program} {ρ : Ren} {s s' : Sem Value} (h : SR P ρ VR s s') : SR P ρ NR (do Pure.pure (Next.value (← s))) (do Pure.pure (Next.value (← s'))) :=
  SR.bind h fun ρ' a a' _ hv => SR.pure (.value _ _ hv)
theorem RR.v {P : Program} {ρ : Ren} {s s' : Sem Value} (h : RR P ρ VR s s') : RR P ρ NR (do Pure.pure (Next.value (← s))) (do Pure.pure (Next.value (← s'))) :=
  RR.bind h fun a a' hv => RR.pure (.value _ _ hv)
theorem SR.u {P : Program} {ρ : Ren} {s s' : Sem Unit} (h : SR P ρ UR s s') : SR P ρ NR (do s; Pure.pure Next.skip) (do s'; Pure.pure Next.skip) :=
  SR.bind h fun ρ' a a' _ _ => SR.pure .skip

/-! ### readers -/
theorem ARel.ptr {ρ : Ren} {a a' : Addr} (h : ARel ρ a a') : VRel ρ (.pointer (some a)) (.pointer (some a')) := by
  obtain ⟨p, hp, rfl⟩ := h
  exact .ptr a p hp
theorem RR.loadAt {P : Program} {ρ : Ren} (t : TypeId) {v v' : Value} (h : VRel ρ v v') : RR P ρ VR (Instr.loadAt t v) (Instr.loadAt t v') :=
  RR.bind (RR.sureAddr h) fun a a' ha => RR.loadVar t ha
theorem Stops.shape {P : Program} (r : Nat) : Stops P (shape r) := fun _ => rfl
theorem Stops.noView {P : Program} (a : Addr) : Stops P (noView a) := Stops.first (Stops.first (Stops.shape _))
theorem Stops.byteOf {P : Program} (b o : Nat) : Stops P (byteOf ⟨b, o, none⟩) := Stops.bind fun p => Stops.first (Stops.noView _)
theorem Stops.partAt {P : Program} (a : Addr) (n m : Nat) : Stops P (partAt a n m) := Stops.bind fun x => Stops.first (Stops.byteOf _ _)
theorem RR.fieldPlace {P : Program} {ρ : Ren} (f : Field) {a a' : Addr} (h : ARel ρ a a') : RR P ρ ARel (fieldPlace a f) (fieldPlace a' f) := by
  refine RR.bind (RR.sizeOf f.type) fun n m e => ?_
  have e : n = m := e
  subst e
  by_cases hn : n = 0
  · rw [if_pos hn, if_pos hn]
    exact Stops.rr (Stops.partAt _ _ _)
  · rw [if_neg hn, if_neg hn]
    exact RR.pure (h.add _)
theorem RR.fieldAt {P : Program} {ρ : Ren} (s : TypeId) {v v' : Value} (h : VRel ρ v v') (f : Nat) : RR P ρ VR (Instr.fieldAt s v f) (Instr.fieldAt s v' f) := by
  refine RR.bind (RR.underlying s) fun d d' ⟨e, _⟩ => ?_
  subst e
  cases d with
  | struct fields =>
    dsimp only
    cases hf : fields[f]? with
    | none => exact RR.halt
    | some x => exact RR.bind (RR.sureAddr h) fun a a' ha => RR.bind (RR.fieldPlace x ha) fun b b' hb => RR.pure hb.ptr
  | _ => exact RR.halt
theorem RR.field {P : Program} {ρ : Ren} (s : TypeId) {v v' : Value} (h : VRel ρ v v') (f : Nat) : RR P ρ VR (Instr.field s v f) (Instr.field s v' f) := by
  refine RR.bind (RR.underlying s) fun d d' ⟨e, _⟩ => ?_
  subst e
  cases d with
  | struct fields =>
    dsimp only
    cases hf : fields[f]? with
    | none => exact RR.halt
    | some x => exact RR.bind (RR.asAgg h) fun a a' ha => RR.part _ ha _
  | _ => exact RR.halt
theorem RR.extract {P : Program} {ρ : Ren} {v v' : Value} (h : VRel ρ v v') (i : Nat) : RR P ρ VR (Instr.extract v i) (Instr.extract v' i) := by
  cases h with
  | tuple x x' hx h =>
    unfold Instr.extract
    dsimp only
    cases hv : x[i]? with
    | none => exact RR.halt
    | some u =>
      obtain ⟨u', h1, h2⟩ := AsRel.get ⟨hx, h⟩ hv
      rw [h1]
      exact RR.pure h2
  | _ => exact RR.halt
theorem RR.makeInterface {P : Program} {ρ : Ren} (t : TypeId) {v v' : Value} (h : VRel ρ v v') : RR P ρ VR (Instr.makeInterface t v) (Instr.makeInterface t v') := by
  refine RR.bind (RR.underlying t) fun d d' ⟨e, _⟩ => ?_
  subst e
  cases d <;> first
    | exact RR.halt
    | exact RR.pure (.iface t _ _ h)
theorem RR.makeFunc {P : Program} {ρ : Ren} (fn : Fn) {x x' y y' : Array Value} (h : AsRel ρ x x') (k : AsRel ρ y y') : RR P ρ VR (Instr.makeFunc fn x y) (Instr.makeFunc fn x' y') :=
  RR.pure (.func fn x y x' y' h.1 k.1 h.2 k.2)
theorem RR.len {P : Program} {ρ : Ren} (ts : Array TypeId) (ty : TypeId) {v v' : Value} (hv : VRel ρ v v') : RR P ρ VR (Builtin.len_ ts ty #[v]) (Builtin.len_ ts ty #[v']) := by
  unfold Builtin.len_
  cases ht : ts[0]? with
  | none => exact RR.halt
  | some t =>
    refine RR.bind (RR.underlying t) fun d d' ⟨e, _⟩ => ?_
    subst e
    cases d with
    | string => cases hv <;> first | exact RR.halt | exact RR.pure (.int _ _)
    | array n e => exact RR.pure (.int _ _)
    | pointer arr =>
      refine RR.bind (RR.underlying arr) fun d d' ⟨e, _⟩ => ?_
      subst e
      cases d <;> first | exact RR.halt | exact RR.pure (.int _ _)
    | slice e => cases hv <;> first | exact RR.halt | exact RR.pure (.int _ _)
    | map k e => cases hv with
      | nilMap => exact RR.pure (.int _ _)
      | map r p h =>
        refine RR.bind (RR.getObj p h rfl) fun o o' ho => ?_
        cases ho with
        | map es es' c h => exact RR.pure (by rw [h.1]; exact .int _ _)
        | iter s p => exact RR.halt
      | _ => exact RR.halt
    | chan k e => cases hv <;> exact RR.halt
    | _ => cases hv <;> exact RR.halt
theorem RR.asAddr {P : Program} {ρ : Ren} {v v' : Value} (h : VRel ρ v v') : RR P ρ ARel (asAddr v) (asAddr v') := by
  cases h with
  | ptr a p h => exact RR.pure ⟨p, h, rfl⟩
  | nilPtr => exact Stops.rr (Stops.panic RuntimeError.nilDeref)
  | _ => exact RR.halt
theorem RR.indexAt {P : Program} {ρ : Ren} (t : TypeId) {x x' i i' : Value} (hx : VRel ρ x x') (hi : VRel ρ i i') : RR P ρ VR (Instr.indexAt t x i) (Instr.indexAt t x' i') := by
  refine RR.bind (RR.asIntOf hi) fun a b ⟨e, _⟩ => ?_
  subst e
  obtain ⟨k, n⟩ := a
  dsimp only
  refine RR.bind (RR.underlying t) fun d d' ⟨e, _⟩ => ?_
  subst e
  cases d with
  | array len elem =>
    refine RR.bind (RR.sureAddr hx) fun q q' hq => ?_
    refine RR.bind (RR.pure (R := fun _ x y => x = (some q, len, elem) ∧ y = (some q', len, elem)) ⟨rfl, rfl⟩) ?_
    rintro _ _ ⟨rfl, rfl⟩
    dsimp only
    refine RR.bind (RR.underlying t) fun d d' ⟨e, _⟩ => ?_
    subst e
    refine RR.ite (fun hc => ?_) (fun hc => ?_)
    · refine RR.bind (RR.sizeOf elem) fun n m e => ?_
      have e : n = m := e
      subst e
      exact RR.pure (hq.add _).ptr
    · exact RR.ite (fun hc => RR.halt) (fun hc => Stops.rr (Stops.bounds _ _ _ _))
  | slice elem => cases hx with
    | nilSlice =>
      refine RR.bind (RR.pure (R := fun _ x y => x = ((none : Option Addr), 0, elem) ∧ y = ((none : Option Addr), 0, elem)) ⟨rfl, rfl⟩) ?_
      rintro _ _ ⟨rfl, rfl⟩
      dsimp only
      refine RR.bind (RR.underlying t) fun d d' ⟨e, _⟩ => ?_
      exact Stops.rr (Stops.bounds _ _ _ _)
    | slice a p len cap h hs hl =>
      have hq : ARel ρ a ⟨p.b, a.off + p.s, none⟩ := ⟨p, h, rfl⟩
      refine RR.bind (RR.pure (R := fun _ x y => x = (some a, len, elem) ∧ y = (some (⟨p.b, a.off + p.s, none⟩ : Addr), len, elem)) ⟨rfl, rfl⟩) ?_
      rintro _ _ ⟨rfl, rfl⟩
      dsimp only
      refine RR.bind (RR.underlying t) fun d d' ⟨e, _⟩ => ?_
      subst e
      refine RR.ite (fun hc => ?_) (fun hc => ?_)
      · refine RR.bind (RR.sizeOf elem) fun n m e => ?_
        have e : n = m := e
        subst e
        exact RR.pure (hq.add _).ptr
      · exact RR.ite (fun hc => RR.halt) (fun hc => Stops.rr (Stops.bounds _ _ _ _))
    | void a b o c hs =>
      refine RR.bind (RR.pure (R := fun _ x y => x = (some a, 0, elem) ∧ y = (some (⟨b, o, none⟩ : Addr), 0, elem)) ⟨rfl, rfl⟩) ?_
      rintro _ _ ⟨rfl, rfl⟩
      dsimp only
      refine RR.bind (RR.underlying t) fun d d' ⟨e, _⟩ => ?_
      subst e
      refine RR.ite (fun hc => absurd hc (by omega)) (fun hc => ?_)
      exact RR.ite (fun hc => RR.halt) (fun hc => Stops.rr (Stops.bounds _ _ _ _))
    | grown a p z len cap cap' h hs hz hl hc he =>
      have hq : ARel ρ a ⟨p.b, a.off + p.s, none⟩ := ⟨p, h, rfl⟩
      refine RR.bind (RR.pure (R := fun _ x y => x = (some a, len, elem) ∧ y = (some (⟨p.b, a.off + p.s, none⟩ : Addr), len, elem)) ⟨rfl, rfl⟩) ?_
      rintro _ _ ⟨rfl, rfl⟩
      dsimp only
      refine RR.bind (RR.underlying t) fun d d' ⟨e, _⟩ => ?_
      subst e
      refine RR.ite (fun hc => ?_) (fun hc => ?_)
      · refine RR.bind (RR.sizeOf elem) fun n m e => ?_
        have e : n = m := e
        subst e
        exact RR.pure (hq.add _).ptr
      · exact RR.ite (fun hc => RR.halt) (fun hc => Stops.rr (Stops.bounds _ _ _ _))
    | _ => exact RR.halt
  | _ => exact RR.halt
theorem RR.index {P : Program} {ρ : Ren} (t : TypeId) {x x' i i' : Value} (hx : VRel ρ x x') (hi : VRel ρ i i') : RR P ρ VR (Instr.index t x i) (Instr.index t x' i') := by
  refine RR.bind (RR.asIntOf hi) fun a b ⟨e, _⟩ => ?_
  subst e
  obtain ⟨k, n⟩ := a
  refine RR.bind (RR.underlying t) fun d d' ⟨e, _⟩ => ?_
  subst e
  cases d with
  | array len elem => cases hx with
    | agg y y' hy h =>
      refine RR.ite (fun hc => ?_) (fun hc => Stops.rr (Stops.bounds _ _ _ _))
      refine RR.bind (RR.sizeOf elem) fun n m e => ?_
      have e : n = m := e
      subst e
      exact RR.part _ ⟨hy, h⟩ _
    | _ => exact RR.halt
  | string => cases hx with
    | string s =>
      dsimp only
      cases (if 0 ≤ n then s[n.toNat]? else none : Option UInt8) with
      | none => exact Stops.rr (Stops.bounds _ _ _ _)
      | some b => exact RR.pure (.int _ _)
    | _ => exact RR.halt
  | _ => exact RR.halt
end Go.Proofs.YtiffnkmbmenhfaaDoor.Run
/-! One lemma for each operation: those that write, and calls. -/
namespace Go.Proofs.YtiffnkmbmenhfaaDoor.Run
open Go Go.RowKit
set_option linter.unusedVariables false
set_option linter.unusedSimpArgs false

theorem SR.storeAt {P : Program} {ρ : Ren} (t : TypeId) {v v' u u' : Value} (h : VRel ρ v v') (hu : VRel ρ u u') : SR P ρ UR (Instr.storeAt t v u) (Instr.storeAt t v' u') :=
  SR.bind (RR.sureAddr h).sr fun ρ' a a' hle ha => SR.storeVar t ha (hu.mono hle)
theorem SR.box {P : Program} {ρ : Ren} (t : TypeId) {v v' : Value} (h : VRel ρ v v') : SR P ρ VR (Instr.box t v) (Instr.box t v') :=
  SR.bind (SR.newVar t h) fun ρ' a a' hle ha => SR.pure ha.ptr
theorem SR.alloc {P : Program} {ρ : Ren} {t : TypeId} (hz : zeroOk P t = true) : SR P ρ VR (Instr.alloc t true (.tuple #[])) (Instr.alloc t true (.tuple #[])) := by
  refine SR.bind (RR.zeroValue hz).sr fun ρ' z z' hle ⟨e, hv, _⟩ => ?_
  subst e
  exact SR.bind (SR.newVar t hv) fun ρ' a a' hle ha => SR.pure ha.ptr
theorem SR.makeMap {P : Program} {ρ : Ren} (t : TypeId) : SR P ρ VR (Instr.makeMap t none) (Instr.makeMap t none) := by
  refine SR.bind SR.newMap fun ρ' a a' hle ⟨p, hp, e, _⟩ => ?_
  subst e
  exact SR.pure (.map a p hp)
theorem SR.range {P : Program} {ρ : Ren} (t : TypeId) (s : ByteArray) : SR P ρ VR (Instr.range t (.string s)) (Instr.range t (.string s)) := by
  refine SR.bind (RR.underlying t).sr fun ρ' d d' hle ⟨e, _⟩ => ?_
  subst e
  cases d with
  | string =>
    refine SR.bind (SR.pure (R := fun _ a b => a = Obj.stringIter s 0 ∧ b = Obj.stringIter s 0) ⟨rfl, rfl⟩) ?_
    rintro ρ2 _ _ hle2 ⟨rfl, rfl⟩
    refine SR.bind (SR.newIter s 0) fun ρ3 a a' hle3 ⟨p, hp, e, hs⟩ => ?_
    subst e
    refine SR.pure ?_
    have := VRel.ptr (ρ := ρ3) ⟨a, 0, none⟩ p hp
    simp only [hs, Nat.add_zero] at this
    exact this
  | _ => exact SR.halt
theorem SR.next {P : Program} {ρ : Ren} (t : TypeId) {v v' : Value} (h : VRel ρ v v') : SR P ρ VR (Instr.next v true t) (Instr.next v' true t) := by
  cases h with
  | ptr a p h =>
    obtain ⟨r, off, sp⟩ := a
    cases off with
    | succ n => exact SR.halt
    | zero =>
      intro hh w hw x h' hx
      -- the place of the range
      have hs : p.s = 0 := by
        have hx1 := hx
        simp only [Instr.next, Bind.bind, Go.getObj, Sem.bind, arun] at hx1
        split at hx1
        · rename_i o hg
          exact (hw.row _ _ _ h hg).1
        · simp at hx1
      have e : (0 : Nat) + p.s = 0 := by omega
      simp only [e]
      revert x h'
      have key : SR P ρ VR (Instr.next (.pointer (some ⟨r, 0, sp⟩)) true t) (Instr.next (.pointer (some ⟨p.b, 0, none⟩)) true t) := by
        unfold Instr.next
        dsimp only
        refine SR.bind (RR.getObj p h rfl).sr fun ρ1 o o' hle ho => ?_
        cases ho with
        | map es es' c h => exact SR.halt
        | iter s q =>
          dsimp only
          refine SR.ite (fun hc => ?_) (fun hc => SR.pure (.tuple _ _ rfl fun i u v hu hv => by
            rw [hu] at hv
            injection hv with hv
            subst hv
            cases i with
            | zero => simp at hu; subst hu; exact .bool _
            | succ i => simp at hu))
          refine SR.bind (SR.setObj p (hle _ _ h) rfl (.iter s _)) fun ρ2 _ _ hle2 _ => SR.pure ?_
          refine .tuple _ _ rfl fun i u v hu hv => ?_
          rw [hu] at hv
          injection hv with hv
          subst hv
          match i, hu with
          | 0, hu => simp at hu; subst hu; exact .bool _
          | 1, hu => simp at hu; subst hu; exact .int _ _
          | 2, hu => simp at hu; subst hu; exact .int _ _
          | i + 3, hu => simp at hu
      exact fun x h' hx => key hh w hw x h' hx
  | _ => exact SR.halt

/-! ### calls -/
theorem SR.callFunc {P : Program} {ρ : Ren} (f : FuncId) (fn : Func) (hf : P.funcs[f]? = some fn) (hn : fn.name ≠ "runtime.NumGoroutine") (hb : fn.body.isNone = false) {x x' : Array Value} (h : AsRel ρ x x') :
    RR P ρ NR (callFunc f x) (callFunc f x') := by
  refine RR.bind RR.program fun a b ⟨e1, e2⟩ => ?_
  subst e1
  subst e2
  rw [hf]
  dsimp only
  rw [if_neg (by simpa using hn), if_neg (by simp [hb])]
  simp only [hn, hb, beq_iff_eq, if_false, Bool.false_eq_true]
  exact RR.pure (.enter f _ _ h)
end Go.Proofs.YtiffnkmbmenhfaaDoor.Run
