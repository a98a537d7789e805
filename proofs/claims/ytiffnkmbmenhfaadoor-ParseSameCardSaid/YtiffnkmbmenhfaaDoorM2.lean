import Derived.Test.YtiffnkmbmenhfaaDoorM1
import Derived.Orders
/-! One lemma for each operation: structs, literals, maps, copy. -/
namespace Go.Proofs.YtiffnkmbmenhfaaDoor.Run
open Go Go.RowKit
set_option linter.unusedVariables false
set_option linter.unusedSimpArgs false

/-- The same on both sides: it only asks the program. -/
def Quiet {α : Type} (P : Program) (s : Sem α) : Prop := ∀ h a h', arun P s h = some (a, h') → h' = h ∧ ∀ w, s.run P w = .ok a w
theorem Quiet.rr {α : Type} {P : Program} {ρ : Ren} {s : Sem α} (h : Quiet P s) : RR P ρ ER s s := by
  intro hh w hw a h' ha
  obtain ⟨rfl, k⟩ := h hh a h' ha
  exact ⟨rfl, a, k w, rfl⟩
theorem Quiet.bind {α β : Type} {P : Program} {s : Sem α} {f : α → Sem β} (h : Quiet P s) (hf : ∀ a, Quiet P (f a)) : Quiet P (s >>= f) := by
  intro hh a h' ha
  have ha' : arun P (s.bind f) hh = some (a, h') := ha
  rw [arun_bind] at ha'
  split at ha'
  · rename_i x h1 hx
    obtain ⟨rfl, k⟩ := h hh x h1 hx
    obtain ⟨rfl, k2⟩ := hf x _ a h' ha'
    exact ⟨rfl, fun w => by rw [Sem.run_bind, k w]; exact k2 w⟩
  · simp at ha'
theorem Quiet.pure {α : Type} {P : Program} (a : α) : Quiet P (Pure.pure a : Sem α) := by
  intro hh x h' hx
  have hx' : some (a, hh) = some (x, h') := hx
  injection hx' with e
  injection e with e1 e2
  subst e1 e2
  exact ⟨rfl, fun w => rfl⟩
theorem Quiet.halt {α : Type} {P : Program} (x : Halt) : Quiet P (Sem.halt x : Sem α) := by
  intro hh x h' hx
  simp [arun] at hx
theorem Quiet.program {P : Program} : Quiet P program := by
  intro hh x h' hx
  have hx' : some (P, hh) = some (x, h') := hx
  injection hx' with e
  injection e with e1 e2
  subst e1 e2
  exact ⟨rfl, fun w => rfl⟩
theorem Quiet.typeInfo {P : Program} (t : TypeId) : Quiet P (typeInfo t) := by
  refine Quiet.bind Quiet.program fun p => ?_
  cases p.info? t with
  | none => exact Quiet.halt _
  | some i => exact Quiet.pure _
theorem Quiet.sizeOf {P : Program} (t : TypeId) : Quiet P (sizeOf t) := Quiet.bind (Quiet.typeInfo t) fun i => Quiet.pure _
theorem Quiet.mapM {α β : Type} {P : Program} {f : α → Sem β} (hf : ∀ a, Quiet P (f a)) (l : List α) : Quiet P (l.mapM f) := by
  rw [← List.mapM'_eq_mapM]
  induction l with
  | nil => exact Quiet.pure _
  | cons a l ih => exact Quiet.bind (hf a) fun b => Quiet.bind ih fun bs => Quiet.pure _
theorem Quiet.mapA {α β : Type} {P : Program} {f : α → Sem β} (hf : ∀ a, Quiet P (f a)) (l : Array α) : Quiet P (l.mapM f) := by
  rw [Array.mapM_eq_mapM_toList]
  exact Quiet.bind (Quiet.mapM hf _) fun x => Quiet.pure _

/-! ### literals -/
def PartsRel (ρ : Ren) (x x' : List (Nat × Value)) : Prop := x.length = x'.length ∧ ∀ (i : Nat) u v, x[i]? = some u → x'[i]? = some v → u.1 = v.1 ∧ VRel ρ u.2 v.2
theorem PartsRel.mono {ρ ρ' : Ren} (hle : ρ.le ρ') {x x' : List (Nat × Value)} (h : PartsRel ρ x x') : PartsRel ρ' x x' := ⟨h.1, fun i u v a b => ⟨(h.2 i u v a b).1, (h.2 i u v a b).2.mono hle⟩⟩
theorem AsRel.set {ρ : Ren} {x x' : Array Value} (h : AsRel ρ x x') {v v' : Value} (hv : VRel ρ v v') (i : Nat) : AsRel ρ (x.setIfInBounds i v) (x'.setIfInBounds i v') := by
  refine ⟨by simpa using h.1, fun j a b ha hb => ?_⟩
  by_cases hj : i = j
  · subst hj
    rw [Array.getElem?_setIfInBounds_self] at ha hb
    split at ha
    · injection ha with ha
      split at hb
      · injection hb with hb
        subst ha hb
        exact hv
      · simp at hb
    · simp at ha
  · rw [Array.getElem?_setIfInBounds_ne hj] at ha hb
    exact h.2 j a b ha hb
theorem fold_rel {ρ : Ren} (off : Nat) : ∀ (l l' : List (Value × Nat)), l.length = l'.length → (∀ (i : Nat) u v, l[i]? = some u → l'[i]? = some v → VRel ρ u.1 v.1 ∧ u.2 = v.2) →
    ∀ (x x' : Array Value), AsRel ρ x x' → AsRel ρ (l.foldl (fun cs (p : Value × Nat) => cs.setIfInBounds (off + p.2) p.1) x) (l'.foldl (fun cs (p : Value × Nat) => cs.setIfInBounds (off + p.2) p.1) x') := by
  intro l
  induction l with
  | nil =>
    intro l' hl h x x' hx
    cases l' with
    | nil => exact hx
    | cons b l' => simp at hl
  | cons a l ih =>
    intro l' hl h x x' hx
    cases l' with
    | nil => simp at hl
    | cons b l' =>
      obtain ⟨h1, h2⟩ := h 0 a b rfl rfl
      simp only [List.foldl_cons, h2]
      exact ih l' (by simpa using hl) (fun i u v hu hv => h (i + 1) u v hu hv) _ _ (hx.set h1 _)
theorem fill_rel {ρ : Ren} (place : Nat → Option (Nat × Nat)) : ∀ (l l' : List (Nat × Value)), PartsRel ρ l l' → ∀ (x x' : Array Value), AsRel ρ x x' → ∀ y, Instr.fill place x l = some y →
    ∃ y', Instr.fill place x' l' = some y' ∧ AsRel ρ y y' := by
  intro l
  induction l with
  | nil =>
    intro l' hl x x' hx y hy
    cases l' with
    | nil => simp only [Instr.fill, Option.some.injEq] at hy; subst hy; exact ⟨x', rfl, hx⟩
    | cons b l' => exact absurd hl.1 (by simp)
  | cons a l ih =>
    intro l' hl x x' hx y hy
    cases l' with
    | nil => exact absurd hl.1 (by simp)
    | cons b l' =>
      obtain ⟨i, v⟩ := a
      obtain ⟨i', v'⟩ := b
      obtain ⟨h1, h2⟩ := hl.2 0 _ _ rfl rfl
      simp only at h1 h2
      subst h1
      have ht : PartsRel ρ l l' := ⟨by simpa using hl.1, fun j u w hu hw => hl.2 (j + 1) u w hu hw⟩
      have hc := h2.cells
      simp only [Instr.fill] at hy ⊢
      cases hp : place i with
      | none => rw [hp] at hy; simp at hy
      | some q =>
        obtain ⟨off, size⟩ := q
        rw [hp] at hy
        simp only at hy ⊢
        rw [← hc.1, ← hx.1]
        split at hy
        · simp at hy
        · rename_i hcond
          rw [if_neg hcond]
          refine ih l' ht _ _ ?_ y hy
          rw [← Array.foldl_toList, ← Array.foldl_toList]
          refine fold_rel off _ _ (by simpa using hc.1) (fun j u w hu hw => ?_) _ _ hx
          simp only [Array.toList_zipIdx, List.getElem?_zipIdx, Option.map_eq_some_iff, Array.getElem?_toList] at hu hw
          obtain ⟨u1, hu1, rfl⟩ := hu
          obtain ⟨w1, hw1, rfl⟩ := hw
          exact ⟨hc.2 j u1 w1 hu1 hw1, rfl⟩
theorem SR.build {P : Program} {ρ : Ren} {t : TypeId} (hz : zeroOk P t = true) {x x' : Array (Nat × Value)} (h : PartsRel ρ x.toList x'.toList) : SR P ρ VR (Instr.build t x) (Instr.build t x') := by
  refine SR.bind (RR.zeroValue hz).sr fun ρ1 z z' hle ⟨e, hv, _⟩ => ?_
  subst e
  have h1 := h.mono hle
  refine SR.bind (RR.underlying t).sr fun ρ2 d d' hle2 ⟨e, _⟩ => ?_
  subst e
  have h2 := h1.mono hle2
  have hz2 := (hv.mono hle2).cells
  cases d with
  | struct fields =>
    refine SR.bind (Quiet.mapA (fun f => Quiet.bind (Quiet.sizeOf _) fun n => Quiet.pure _) fields).rr.sr fun ρ3 pl pl' hle3 e => ?_
    have e : pl = pl' := e
    subst e
    cases hf : Instr.fill (fun i => pl[i]?) z.cells x.toList with
    | none => exact SR.halt
    | some y =>
      obtain ⟨y', h3, h4⟩ := fill_rel _ _ _ (h2.mono hle3) _ _ (hz2.mono hle3) y hf
      rw [h3]
      exact SR.pure (.agg _ _ h4.1 h4.2)
  | array n elem =>
    refine SR.bind (RR.sizeOf elem).sr fun ρ3 n m hle3 e => ?_
    have e : n = m := e
    subst e
    cases hf : Instr.fill (fun i => some (i * n, n)) z.cells x.toList with
    | none => exact SR.halt
    | some y =>
      obtain ⟨y', h3, h4⟩ := fill_rel _ _ _ (h2.mono hle3) _ _ (hz2.mono hle3) y hf
      dsimp only
      rw [h3]
      exact SR.pure (.agg _ _ h4.1 h4.2)
  | _ => exact SR.halt
end Go.Proofs.YtiffnkmbmenhfaaDoor.Run
/-! One lemma for each operation: rows of literals, maps, copy, arrays. -/
namespace Go.Proofs.YtiffnkmbmenhfaaDoor.Run
open Go Go.RowKit
set_option linter.unusedVariables false
set_option linter.unusedSimpArgs false

theorem AsRel.bang {ρ : Ren} {z : Array Value} (h : AsRel ρ z z) (k : Nat) : VRel ρ z[k]! z[k]! := by
  by_cases hk : k < z.size
  · rw [getElem!_pos z k hk]
    exact h.2 k _ _ (Array.getElem?_eq_getElem hk) (Array.getElem?_eq_getElem hk)
  · rw [getElem!_neg z k hk]
    exact .bool _
theorem AsRel.zeros {ρ : Ren} {z : Array Value} (h : AsRel ρ z z) (n m : Nat) : AsRel ρ ((Array.range n).map fun i => z[i % m]!) ((Array.range n).map fun i => z[i % m]!) := by
  refine ⟨rfl, fun i u v hu hv => ?_⟩
  rw [hu] at hv
  injection hv with hv
  subst hv
  rw [Array.getElem?_map] at hu
  obtain ⟨j, hj, rfl⟩ := Option.map_eq_some_iff.1 hu
  exact h.bang _
def NRR (ρ : Ren) (a a' : Addr) : Prop := ARel ρ a a' ∧ a.spot = none
theorem newRow_sr {P : Program} {ρ : Ren} (t : TypeId) {cs cs' : Array Value} (h : AsRel ρ cs cs') : SR P ρ NRR (newRow t cs) (newRow t cs') := by
  intro hh w hw a h' ha
  have ha' : arun P (Sem.new (.cells cs t) fun r => .pure ⟨r, 0, none⟩) hh = some (a, h') := ha
  simp only [arun] at ha'
  split at ha'
  · rename_i hl
    simp only [Option.some.injEq, Prod.mk.injEq] at ha'
    obtain ⟨rfl, rfl⟩ := ha'
    obtain ⟨h1, h2⟩ := hw.push hl (.rw cs.toList) (.cells cs' t) cs'.size (fun _ e => by cases e) (rowRel_new h t)
    exact ⟨_, _, _, rfl, h1, ⟨⟨_, Ren.with_same _ _ _, rfl⟩, rfl⟩, h2⟩
  · simp at ha'
theorem SR.buildSlice {P : Program} {ρ : Ren} {t : TypeId} (hz : elemZeroOk P t = true) (len : Nat) {x x' : Array (Nat × Value)} (h : PartsRel ρ x.toList x'.toList) : SR P ρ VR (Instr.buildSlice t len x) (Instr.buildSlice t len x') := by
  refine SR.bind (RR.underlying t).sr fun ρ1 d d' hle ⟨e, hu⟩ => ?_
  subst e
  unfold elemZeroOk at hz
  rw [hu] at hz
  cases d with
  | slice elem =>
    dsimp only at hz ⊢
    refine SR.bind (RR.sizeOf elem).sr fun ρ2 n m hle2 e => ?_
    have e : n = m := e
    subst e
    refine SR.ite (fun hc => SR.halt) (fun hc => ?_)
    have tail : ∀ (ρ3 : Ren) (z : Array Value), AsRel ρ3 z z → PartsRel ρ3 x.toList x'.toList →
        SR P ρ3 VR (match Instr.fill (fun i => some (i * n, n)) ((Array.range (len * n)).map fun i => z[i % z.size]!) x.toList with
          | some cells => do Pure.pure (Value.slice (some (← Go.newRow elem cells)) len len)
          | _ => stuck "buildSlice: a part of the wrong size") (match Instr.fill (fun i => some (i * n, n)) ((Array.range (len * n)).map fun i => z[i % z.size]!) x'.toList with
          | some cells => do Pure.pure (Value.slice (some (← Go.newRow elem cells)) len len)
          | _ => stuck "buildSlice: a part of the wrong size") := by
      intro ρ3 z hzz hp
      cases hf : Instr.fill (fun i => some (i * n, n)) ((Array.range (len * n)).map fun i => z[i % z.size]!) x.toList with
      | none => exact SR.halt
      | some y =>
        obtain ⟨y', h3, h4⟩ := fill_rel _ _ _ hp _ _ (hzz.zeros _ _) y hf
        rw [h3]
        refine SR.bind (newRow_sr elem h4) fun ρ4 a a' hle4 ha => ?_
        obtain ⟨⟨p, hp4, e⟩, hs⟩ := ha
        subst e
        exact SR.pure (.slice a p len len hp4 hs (Nat.le_refl _))
    have h2 := (h.mono hle).mono hle2
    by_cases h0 : len * n = 0
    · simp only [if_pos h0]
      exact tail ρ2 #[] (AsRel.nil _) h2
    · simp only [if_neg h0]
      refine SR.bind (RR.zeroValue hz).sr fun ρ3 z z' hle3 ⟨e, hv, _⟩ => ?_
      subst e
      exact tail ρ3 z.cells hv.cells (h2.mono hle3)
  | _ => exact SR.halt
/-! ### maps -/
def litKey : Value → Bool
  | .string _ => true
  | .int _ _ => true
  | .bool _ => true
  | _ => false
theorem sameNow_rel {ρ : Ren} {d : TypeDesc} {k u u' : Value} {b : Bool} (h : VRel ρ u u') (hs : Instr.sameNow d k u = some b) : Instr.sameNow d k u' = some b := by
  cases h <;> first
    | exact hs
    | (cases d <;> cases k <;> simp [Instr.sameNow] at hs)
theorem findNow_rel {ρ : Ren} {d : TypeDesc} {k : Value} : ∀ (es es' : List MapEntry) (i : Nat), es.length = es'.length →
    (∀ (j : Nat) e e', es[j]? = some e → es'[j]? = some e' → e.born = e'.born ∧ VRel ρ e.key e'.key ∧ VRel ρ e.val e'.val) → ∀ r, Instr.findNow d k es i = some r →
    ∃ r', Instr.findNow d k es' i = some r' ∧ ((r = none ∧ r' = none) ∨ ∃ j v v', r = some (j, v) ∧ r' = some (j, v') ∧ VRel ρ v v' ∧ i ≤ j ∧ j < i + es.length) := by
  intro es
  induction es with
  | nil =>
    intro es' i hl h r hr
    cases es' with
    | nil => simp only [Instr.findNow, Option.some.injEq] at hr; subst hr; exact ⟨none, rfl, .inl ⟨rfl, rfl⟩⟩
    | cons e es' => simp at hl
  | cons e es ih =>
    intro es' i hl h r hr
    cases es' with
    | nil => simp at hl
    | cons e' es' =>
      obtain ⟨_, hk, hv⟩ := h 0 e e' rfl rfl
      simp only [Instr.findNow] at hr ⊢
      cases hs : Instr.sameNow d k e.key with
      | none => rw [hs] at hr; simp at hr
      | some b =>
        rw [hs] at hr
        rw [sameNow_rel hk hs]
        cases b with
        | true =>
          simp only [Option.some.injEq] at hr ⊢
          subst hr
          exact ⟨_, rfl, .inr ⟨i, e.val, e'.val, rfl, rfl, hv, Nat.le_refl _, by simp⟩⟩
        | false =>
          obtain ⟨r', h1, h2⟩ := ih es' (i + 1) (by simpa using hl) (fun j a b ha hb => h (j + 1) a b ha hb) r hr
          refine ⟨r', h1, ?_⟩
          rcases h2 with h2 | ⟨j, v, v', a, b, c, d, e⟩
          · exact .inl h2
          · exact .inr ⟨j, v, v', a, b, c, by omega, by simp only [List.length_cons]; omega⟩
theorem RR.checkKey {P : Program} {ρ : Ren} {b : Bool} {n : Nat} {t : TypeId} {k : Value} (hk : litKey k = true) (b' : Bool) : RR P ρ UR (Instr.checkKey b n t k) (Instr.checkKey b' n t k) := by
  cases n with
  | zero => exact RR.halt
  | succ n =>
    unfold Instr.checkKey
    refine RR.bind (RR.underlying t) fun d d' ⟨e, _⟩ => ?_
    subst e
    cases k with
    | string s => cases d <;> first | exact RR.halt | exact RR.pure trivial
    | int k m => cases d <;> first | exact RR.halt | exact RR.pure trivial
    | bool c => cases d <;> first | exact RR.halt | exact RR.pure trivial
    | _ => simp [litKey] at hk
def FR (ρ : Ren) (r r' : Option (Nat × Value)) : Prop := (r = none ∧ r' = none) ∨ ∃ j v v', r = some (j, v) ∧ r' = some (j, v') ∧ VRel ρ v v'
end Go.Proofs.YtiffnkmbmenhfaaDoor.Run
/-! One lemma for each operation: maps of strings, copy, arrays. -/
namespace Go.Proofs.YtiffnkmbmenhfaaDoor.Run
open Go Go.RowKit
set_option linter.unusedVariables false
set_option linter.unusedSimpArgs false

theorem equal_string {P : Program} (t : TypeId) (s : ByteArray) (u : Value) (h : AH) : arun P (Op.equal t (.string s) u) h =
    match P.underlying t, u with
    | some .string, .string b => some (s == b, h)
    | _, _ => none := by
  have h1 : arun P (underlying t) h = match P.underlying t with | some d => some (d, h) | none => none := by
    show arun P (Sem.bind program _) h = _
    rw [arun_bind]
    simp only [program, arun]
    cases P.underlying t <;> rfl
  show arun P (Sem.bind (underlying t) _) h = _
  rw [arun_bind, h1]
  cases hd : P.underlying t with
  | none => rfl
  | some d => cases d <;> cases u <;> rfl
theorem asking_stops {P : Program} (t : TypeId) (d : TypeDesc) (hd : P.underlying t = some d) (s : ByteArray) : ∀ (es : List MapEntry) (i j : Nat), Instr.findNow d (.string s) es i = none → Stops P (Instr.findAsking t (.string s) es j) := by
  intro es
  induction es with
  | nil => intro i j h; simp [Instr.findNow] at h
  | cons e es ih =>
    intro i j h hh
    simp only [Instr.findNow] at h
    show arun P (Sem.bind (Op.equal t (.string s) e.key) _) hh = none
    rw [arun_bind, equal_string, hd]
    cases hs : Instr.sameNow d (.string s) e.key with
    | none =>
      cases d <;> (try rfl)
      cases hk : e.key <;> first
        | rfl
        | (rw [hk] at hs; simp [Instr.sameNow] at hs)
    | some b =>
      rw [hs] at h
      cases b with
      | true => simp at h
      | false =>
        dsimp only at h
        cases hk : e.key with
        | string b =>
          rw [hk] at hs
          cases d with
          | string =>
            simp only [Instr.sameNow, Option.some.injEq] at hs
            dsimp only
            rw [hs]
            exact ih (i + 1) (j + 1) h hh
          | _ => simp [Instr.sameNow] at hs
        | _ => rw [hk] at hs; cases d <;> simp [Instr.sameNow] at hs
theorem RR.findKey {P : Program} {ρ : Ren} (t : TypeId) (s : ByteArray) {es es' : Array MapEntry} (h : EntriesRel ρ es es') :
    RR P ρ (fun ρ r r' => (r = none ∧ r' = none) ∨ ∃ j v v', r = some (j, v) ∧ r' = some (j, v') ∧ VRel ρ v v') (Instr.findKey t (.string s) es.toList) (Instr.findKey t (.string s) es'.toList) := by
  refine RR.bind (RR.underlying t) fun d d' ⟨e, hu⟩ => ?_
  subst e
  cases hf : Instr.findNow d (.string s) es.toList 0 with
  | none => exact Stops.rr (asking_stops t d hu s es.toList 0 0 hf)
  | some r =>
    obtain ⟨r', h1, h2⟩ := findNow_rel es.toList es'.toList 0 (by simpa using h.1) (fun j e e' a b => h.2 j e e' (by simpa using a) (by simpa using b)) r hf
    rw [h1]
    refine RR.pure ?_
    rcases h2 with h2 | ⟨j, v, v', a, b, c, _, _⟩
    · exact .inl h2
    · exact .inr ⟨j, v, v', a, b, c⟩
theorem EntriesRel.nil (ρ : Ren) : EntriesRel ρ #[] #[] := ⟨rfl, fun i e e' h => by simp at h⟩
theorem RR.lookup {P : Program} {ρ : Ren} {t : TypeId} (hz : elemZeroOk P t = true) {m m' : Value} (hm : VRel ρ m m') (s : ByteArray) (ok : Bool) : RR P ρ VR (Instr.lookup t m (.string s) ok) (Instr.lookup t m' (.string s) ok) := by
  refine RR.bind (RR.underlying t) fun d d' ⟨e, hu⟩ => ?_
  subst e
  unfold elemZeroOk at hz
  rw [hu] at hz
  cases d with
  | map key elem =>
    dsimp only at hz ⊢
    have tail : ∀ (es es' : Array MapEntry), EntriesRel ρ es es' → RR P ρ VR
        (do
          Instr.checkKey es.isEmpty 10000 key (.string s)
          let (v, ok') ← match ← Instr.findKey key (.string s) es.toList with
            | some (_, v) => Pure.pure (v, true)
            | none => Pure.pure (← Go.zeroValue elem, false)
          Pure.pure (if ok then Value.tuple #[v, .bool ok'] else v))
        (do
          Instr.checkKey es'.isEmpty 10000 key (.string s)
          let (v, ok') ← match ← Instr.findKey key (.string s) es'.toList with
            | some (_, v) => Pure.pure (v, true)
            | none => Pure.pure (← Go.zeroValue elem, false)
          Pure.pure (if ok then Value.tuple #[v, .bool ok'] else v)) := by
      intro es es' he
      have fin : ∀ (v v' : Value) (b : Bool), VRel ρ v v' → RR P ρ VR (Pure.pure (if ok then Value.tuple #[v, .bool b] else v)) (Pure.pure (if ok then Value.tuple #[v', .bool b] else v')) := by
        intro v v' b hv
        cases ok with
        | true =>
          have hh := ((AsRel.nil ρ).push hv).push (VRel.bool b)
          exact RR.pure (.tuple _ _ hh.1 hh.2)
        | false => exact RR.pure hv
      refine RR.bind (RR.checkKey rfl _) fun _ _ _ => ?_
      refine RR.bind (RR.findKey key s he) fun r r' hr => ?_
      rcases hr with ⟨rfl, rfl⟩ | ⟨j, v, v', rfl, rfl, hv⟩
      · refine RR.bind (RR.zeroValue hz) fun z z' ⟨e, hv, _⟩ => ?_
        exact fin _ _ _ hv
      · exact fin _ _ _ hv
    cases hm with
    | nilMap => exact tail _ _ (EntriesRel.nil ρ)
    | map r p h =>
      refine RR.bind (RR.getObj p h rfl) fun o o' ho => ?_
      cases ho with
      | map es es' c he => exact tail es es' he
      | iter s p => exact RR.halt
    | _ => exact RR.halt
  | _ => exact RR.halt
end Go.Proofs.YtiffnkmbmenhfaaDoor.Run
/-! One lemma for each operation: an entry of a map, copy. -/
namespace Go.Proofs.YtiffnkmbmenhfaaDoor.Run
open Go Go.RowKit
set_option linter.unusedVariables false
set_option linter.unusedSimpArgs false

theorem EntriesRel.push {ρ : Ren} {es es' : Array MapEntry} (h : EntriesRel ρ es es') {e e' : MapEntry} (hb : e.born = e'.born) (hk : VRel ρ e.key e'.key) (hv : VRel ρ e.val e'.val) : EntriesRel ρ (es.push e) (es'.push e') := by
  refine ⟨by simp [h.1], fun i a b ha hb' => ?_⟩
  rw [Array.getElem?_push] at ha hb'
  rw [← h.1] at hb'
  by_cases hi : i = es.size
  · rw [if_pos hi] at ha hb'
    injection ha with ha
    injection hb' with hb'
    subst ha hb'
    exact ⟨hb, hk, hv⟩
  · rw [if_neg hi] at ha hb'
    exact h.2 i a b ha hb'
theorem EntriesRel.modify {ρ : Ren} {es es' : Array MapEntry} (h : EntriesRel ρ es es') (i : Nat) {k k' v v' : Value} (hk : VRel ρ k k') (hv : VRel ρ v v') :
    EntriesRel ρ (es.modify i fun e => { e with key := k, val := v }) (es'.modify i fun e => { e with key := k', val := v' }) := by
  refine ⟨by simp [h.1], fun j a b ha hb => ?_⟩
  rw [Array.getElem?_modify] at ha hb
  by_cases hj : i = j
  · rw [if_pos hj] at ha hb
    obtain ⟨a1, h1, rfl⟩ := Option.map_eq_some_iff.1 ha
    obtain ⟨b1, h2, rfl⟩ := Option.map_eq_some_iff.1 hb
    exact ⟨(h.2 j a1 b1 h1 h2).1, hk, hv⟩
  · rw [if_neg hj] at ha hb
    exact h.2 j a b ha hb
theorem EntriesRel.mono {ρ ρ' : Ren} (hle : ρ.le ρ') {es es' : Array MapEntry} (h : EntriesRel ρ es es') : EntriesRel ρ' es es' :=
  ⟨h.1, fun i e e' a b => let ⟨h1, h2, h3⟩ := h.2 i e e' a b; ⟨h1, h2.mono hle, h3.mono hle⟩⟩
theorem Stops.choose {P : Program} (q : Question) : Stops P (choose q) := fun _ => rfl
theorem RR.keyThatStays {P : Program} {ρ : Ren} {u u' : Value} (h : VRel ρ u u') (s : ByteArray) : RR P ρ VR (Instr.keyThatStays u (.string s)) (Instr.keyThatStays u' (.string s)) := by
  have no : ∀ (x : Value), Instr.sameBits 10000 x (.string s) = false → RR P ρ VR (Instr.keyThatStays x (.string s)) (Instr.keyThatStays u' (.string s)) := by
    intro x hx
    refine Stops.rr ?_
    unfold Instr.keyThatStays
    rw [if_neg (by simp [hx])]
    exact Stops.first (Stops.choose _)
  cases h with
  | string b =>
    unfold Instr.keyThatStays
    refine RR.ite (fun hc => RR.pure (.string s)) (fun hc => Stops.rr (Stops.first (Stops.choose _)))
  | _ => exact no _ (by simp [Instr.sameBits])
theorem SR.mapUpdate {P : Program} {ρ : Ren} (t : TypeId) {m m' : Value} (hm : VRel ρ m m') (s : ByteArray) {v v' : Value} (hv : VRel ρ v v') : SR P ρ UR (Instr.mapUpdate t m (.string s) v) (Instr.mapUpdate t m' (.string s) v') := by
  refine SR.bind (RR.underlying t).sr fun ρ1 d d' hle ⟨e, hu⟩ => ?_
  subst e
  cases d with
  | map key elem =>
    dsimp only
    cases hm with
    | nilMap => exact (Stops.rr (Stops.panic (RuntimeError.plain _))).sr
    | map r p h =>
      refine SR.bind (RR.getObj p (hle _ _ h) rfl).sr fun ρ2 o o' hle2 ho => ?_
      cases ho with
      | iter s p => exact SR.halt
      | map es es' c he =>
        dsimp only
        refine SR.bind (RR.checkKey rfl _).sr fun ρ3 _ _ hle3 _ => ?_
        refine SR.bind (RR.findKey key s (he.mono hle3)).sr fun ρ4 r1 r2 hle4 hr => ?_
        have hv4 : VRel ρ4 v v' := (((hv.mono hle).mono hle2).mono hle3).mono hle4
        have he4 := (he.mono hle3).mono hle4
        have h4 : ρ4 r = some p := hle4 _ _ (hle3 _ _ (hle2 _ _ (hle _ _ h)))
        rcases hr with ⟨rfl, rfl⟩ | ⟨j, w, w', rfl, rfl, hw⟩
        · exact SR.setObj p h4 rfl (.map _ _ _ (he4.push rfl (.string s) hv4))
        · dsimp only
          have hk : VRel ρ4 (((es[j]?).map (·.key)).getD (.string s)) (((es'[j]?).map (·.key)).getD (.string s)) := by
            cases ha : es[j]? with
            | none =>
              have : es'[j]? = none := by
                rw [Array.getElem?_eq_none_iff] at ha ⊢
                rw [← he4.1]; exact ha
              rw [this]
              exact .string s
            | some e =>
              have hj := (Array.getElem?_eq_some_iff.1 ha).1
              have hj' : j < es'.size := he4.1 ▸ hj
              rw [Array.getElem?_eq_getElem hj']
              exact (he4.2 j e _ ha (Array.getElem?_eq_getElem hj')).2.1
          refine SR.bind (RR.keyThatStays hk s).sr fun ρ5 k k' hle5 hk5 => ?_
          exact SR.setObj p (hle5 _ _ h4) rfl (.map _ _ _ ((he4.mono hle5).modify j hk5 (hv4.mono hle5)))
    | _ => exact SR.halt
  | _ => exact SR.halt

/-! ### copy -/
theorem RR.lenOf {P : Program} {ρ : Ren} {v v' : Value} (h : VRel ρ v v') : RR P ρ ER (Builtin.lenOf v) (Builtin.lenOf v') := by
  cases h <;> first | exact RR.halt | exact RR.pure rfl
theorem AsRel.lits {ρ : Ren} (x : Array Value) (h : ∀ v ∈ x, VRel ρ v v) : AsRel ρ x x := by
  refine ⟨rfl, fun i u v hu hv => ?_⟩
  rw [hu] at hv
  injection hv with hv
  subst hv
  obtain ⟨hi, e⟩ := Array.getElem?_eq_some_iff.1 hu
  exact h u (by rw [← e]; exact Array.getElem_mem hi)
theorem RR.firstCells {P : Program} {ρ : Ren} (size n : Nat) {v v' : Value} (h : VRel ρ v v') (hv : notVoid v = true) : RR P ρ AsRel (Builtin.firstCells size n v) (Builtin.firstCells size n v') := by
  cases h with
  | nilSlice => exact RR.pure (AsRel.nil _)
  | slice a p len cap h hs hl => exact RR.loadCells ⟨p, h, rfl⟩ _
  | grown a p z len cap cap' h hs hz hl hc he => exact RR.loadCells ⟨p, h, rfl⟩ _
  | void a b o c hs => simp [notVoid, hs] at hv
  | string s =>
    refine RR.pure (AsRel.lits _ fun v hv => ?_)
    obtain ⟨b, _, rfl⟩ := Array.mem_map.1 hv
    exact .int _ _
  | _ => exact RR.halt
theorem SR.copy {P : Program} {ρ : Ren} (ts : Array TypeId) (ty : TypeId) {d d' x x' : Value} (hd : VRel ρ d d') (hx : VRel ρ x x') (nd : notVoid d = true) (nx : notVoid x = true) : SR P ρ VR (Builtin.copy_ ts ty #[d, x]) (Builtin.copy_ ts ty #[d', x']) := by
  unfold Builtin.copy_
  cases ht : ts[0]? with
  | none => exact SR.halt
  | some t =>
    refine SR.bind (RR.underlying t).sr fun ρ1 dt dt' hle ⟨e, hu⟩ => ?_
    subst e
    have hd1 := hd.mono hle
    have hx1 := hx.mono hle
    cases dt with
    | slice elem =>
      dsimp only
      have tail : ∀ (base base' : Option Addr) (len : Nat), ((base = none ∧ base' = none) ∨ ∃ a a', base = some a ∧ base' = some a' ∧ ARel ρ1 a a') → SR P ρ1 VR
          (do
            let n := Nat.min (← Builtin.lenOf x) len
            let cells ← Builtin.firstCells (← Go.sizeOf elem) n x
            if let some a := base then Go.storeCells a cells.toList
            Pure.pure (goInt n))
          (do
            let n := Nat.min (← Builtin.lenOf x') len
            let cells ← Builtin.firstCells (← Go.sizeOf elem) n x'
            if let some a := base' then Go.storeCells a cells.toList
            Pure.pure (goInt n)) := by
        intro base base' len hb
        refine SR.bind (RR.lenOf hx1).sr fun ρ2 n n' hle2 e => ?_
        have e : n = n' := e
        subst e
        refine SR.bind (RR.sizeOf elem).sr fun ρ3 m m' hle3 e => ?_
        have e : m = m' := e
        subst e
        refine SR.bind (RR.firstCells m _ ((hx1.mono hle2).mono hle3) nx).sr fun ρ4 c c' hle4 hc => ?_
        rcases hb with ⟨rfl, rfl⟩ | ⟨a, a', rfl, rfl, ha⟩
        · exact SR.pure (.int _ _)
        · exact SR.bind (SR.storeCells _ _ ρ4 a a' 0 (((ha.mono hle2).mono hle3).mono hle4) hc.toList) fun ρ5 _ _ _ _ => SR.pure (.int _ _)
      cases hd1 with
      | nilSlice => exact tail none none 0 (.inl ⟨rfl, rfl⟩)
      | slice a p len cap h hs hl => exact tail _ _ len (.inr ⟨a, _, rfl, rfl, p, h, rfl⟩)
      | grown a p z len cap cap' h hs hz hl hc he => exact tail _ _ len (.inr ⟨a, _, rfl, rfl, p, h, rfl⟩)
      | void a b o c hs => simp [notVoid, hs] at nd
      | _ => exact SR.halt
    | _ => exact SR.halt
end Go.Proofs.YtiffnkmbmenhfaaDoor.Run
/-! Slots; the meaning of an operation that a rule of its own gives. -/
namespace Go.Proofs.YtiffnkmbmenhfaaDoor.Run
open Go Go.RowKit
set_option linter.unusedVariables false
set_option linter.unusedSimpArgs false

structure EnvRel (ρ : Ren) (n : Nat) (a : Env) (a' : Act) : Prop where
  size : n ≤ a'.tmps.size
  tmp : ∀ t, VRel ρ (a.eval (.tmp t)) (a'.tmps.getD t undef)
  len : a.defers.length = a'.defers.length
  defers : ∀ (i : Nat) d d', a.defers[i]? = some d → a'.defers[i]? = some d' → DRel ρ d d'
def Gl (P : Program) (ρ : Ren) : Prop := ∀ g, g < P.globals.size → ∃ p, ρ g = some p ∧ p.b = g ∧ p.s = 0
theorem Gl.mono {P : Program} {ρ ρ' : Ren} (hle : ρ.le ρ') (h : Gl P ρ) : Gl P ρ' := fun g hg => let ⟨p, h1, h2⟩ := h g hg; ⟨p, hle _ _ h1, h2⟩
theorem EnvRel.mono {ρ ρ' : Ren} (hle : ρ.le ρ') {n : Nat} {a : Env} {a' : Act} (h : EnvRel ρ n a a') : EnvRel ρ' n a a' :=
  ⟨h.size, fun t => (h.tmp t).mono hle, h.len, fun i d d' x y => (h.defers i d d' x y).mono hle⟩
theorem EnvRel.eval {P : Program} {ρ : Ren} {n : Nat} {a : Env} {a' : Act} (h : EnvRel ρ n a a') (hg : Gl P ρ) {x : Operand} (hx : operandOk P x = true) : VRel ρ (a.eval x) (a'.eval x) := by
  cases x with
  | tmp t => exact h.tmp t
  | const v => exact ground_rel ρ 8 v hx
  | global g =>
    obtain ⟨p, h1, h2, h3⟩ := hg g (of_decide_eq_true hx)
    have := VRel.ptr (ρ := ρ) ⟨g, 0, none⟩ p h1
    rw [h2, h3] at this
    exact this
  | func f => exact .func _ _ _ _ _ rfl rfl (fun i u v hu => by simp at hu) (fun i u v hu => by simp at hu)
theorem Env.eval_put (a : Env) (d : Tmp) (v : Value) (hd : d < 1073741824) (t : Tmp) : (a.put (some d) v).eval (.tmp t) = if t = d then v else a.eval (.tmp t) := by
  cases a with
  | mk tr ds =>
    simp only [Env.put, Env.eval, Tr.get_set16 _ _ _ _ hd]
    by_cases ht : t = d
    · simp [ht]
    · simp [ht]
theorem EnvRel.put {ρ : Ren} {n : Nat} {a : Env} {a' : Act} (h : EnvRel ρ n a a') {v v' : Value} (hv : VRel ρ v v') {dst : Option Tmp} (hd : ∀ d, dst = some d → d < n) (hn : n < 1000000) : EnvRel ρ n (a.put dst v) (a'.put dst v') := by
  cases dst with
  | none => exact h
  | some d =>
    have hdn := hd d rfl
    have hds : (a.put (some d) v).defers = a.defers := by cases a; rfl
    refine ⟨by simpa [Act.put] using h.size, fun t => ?_, by rw [hds]; exact h.len, by rw [hds]; exact h.defers⟩
    rw [Env.eval_put _ _ _ (Nat.lt_of_lt_of_le hdn (by omega))]
    have hsz : d < a'.tmps.size := Nat.lt_of_lt_of_le hdn h.size
    by_cases ht : t = d
    · subst ht
      rw [if_pos rfl]
      have : (a'.put (some t) v').tmps.getD t undef = v' := by
        simp [Act.put, Array.getD, hsz]
      rw [this]
      exact hv
    · rw [if_neg ht]
      have : (a'.put (some d) v').tmps.getD t undef = a'.tmps.getD t undef := by
        simp only [Act.put, Array.getD_eq_getD_getElem?, Array.getElem?_setIfInBounds_ne (Ne.symm ht)]
      rw [this]
      exact h.tmp t
theorem undef_rel (ρ : Ren) : VRel ρ undef undef := .tuple _ _ rfl fun i u v h => by simp at h

/-! ### values without addresses -/
theorem ground_eq {ρ : Ren} : ∀ (n : Nat) (v v' : Value), ground n v = true → VRel ρ v v' → v' = v := by
  have base : ∀ (n : Nat) (v v' : Value), (∀ cs, v ≠ .agg cs) → ground n v = true → VRel ρ v v' → v' = v := by
    intro n v v' hn h hv
    cases hv with
    | agg x x' hx h' => exact absurd rfl (hn x)
    | ptr a p hp => cases n <;> simp [ground] at h
    | slice a p l c hp hs hl => cases n <;> simp [ground] at h
    | grown a p z l c c' hp hs hz hl hc he => cases n <;> simp [ground] at h
    | void a b o c hs => cases n <;> simp [ground] at h
    | map r p hp => cases n <;> simp [ground] at h
    | func => cases n <;> simp [ground] at h
    | iface => cases n <;> simp [ground] at h
    | tuple => cases n <;> simp [ground] at h
    | _ => rfl
  intro n
  induction n with
  | zero =>
    intro v v' h hv
    refine base 0 v v' (fun cs e => ?_) h hv
    subst e
    simp [ground] at h
  | succ n ih =>
    intro v v' h hv
    cases hv with
    | agg x x' hx hr =>
      simp only [ground, List.all_eq_true] at h
      congr 1
      refine Array.ext (by omega) fun i h1 h2 => ?_
      refine ih x[i] x'[i] (h _ (Array.getElem_mem_toList h2)) (hr i _ _ (Array.getElem?_eq_getElem h2) (Array.getElem?_eq_getElem h1))
    | _ => exact base (n + 1) _ _ (fun cs e => by cases e) h (by constructor <;> assumption)
theorem prun_run {α : Type} (P : Program) (s : Sem α) : ∀ (a : α), prun P s = some a → ∀ w, s.run P w = .ok a w := by
  induction s with
  | pure x => intro a h w; simp only [prun, Option.some.injEq] at h; subst h; rfl
  | program k ih => intro a h w; exact ih P a h w
  | mark m k ih => intro a h w; exact ih a h w
  | _ => intro a h; simp [prun] at h

/-! ### slices of slices and arrays -/
theorem bound_run {P : Program} {ρ : Ren} {w : World} {v v' : Value} (hv : VRel ρ v v') {m m' x : Nat} (hm : m ≤ m') {d : Nat} {code : BoundsCode} (h : bound (some v) d m = some x) :
    (Instr.sliceBound v' m' code).run P w = .ok x w ∧ x ≤ m := by
  unfold bound at h
  cases hv with
  | int k n =>
    simp only at h
    split at h
    · rename_i hc
      injection h with h
      subst h
      refine ⟨?_, by omega⟩
      simp only [Instr.sliceBound, asIntOf, Sem.run_bind, Sem.run_pure, Result.andThen_ok, Sem.run_ite]
      rw [if_pos ⟨hc.1, by omega⟩]
    · simp at h
  | _ => simp at h
theorem bound_none (d m : Nat) : bound none d m = some d := rfl
/-- Bounds of a slice: those that hold over the least capacity hold over the true one. -/
theorem bounds_run {P : Program} {ρ : Ren} {w : World} {len cap cap' l h m : Nat} {lo hi mx lo' hi' mx' : Option Value} (isSlice : Bool)
    (hlo : ∀ v, lo = some v → ∃ v', lo' = some v' ∧ VRel ρ v v') (hlo0 : lo = none → lo' = none) (hhi : ∀ v, hi = some v → ∃ v', hi' = some v' ∧ VRel ρ v v') (hhi0 : hi = none → hi' = none)
    (hmx : ∀ v, mx = some v → ∃ v', mx' = some v' ∧ VRel ρ v v') (hmx0 : mx = none → mx' = none) (hlc : len ≤ cap) (hcap : cap ≤ cap') (hb : bounds len cap lo hi mx = some (l, h, m)) :
    (Instr.sliceBounds isSlice len cap' lo' hi' mx').run P w = .ok (l, h, if mx.isSome then m else cap') w ∧ l ≤ h ∧ h ≤ m ∧ m ≤ cap ∧ (mx = none → m = cap) := by
  unfold bounds at hb
  cases mx with
  | none =>
    have e := hmx0 rfl
    subst e
    simp only [bound_none] at hb
    cases hi with
    | none =>
      have e := hhi0 rfl
      subst e
      simp only [bound_none, Option.isSome_none, Bool.false_and] at hb
      cases lo with
      | none =>
        have e := hlo0 rfl
        subst e
        simp only [bound_none, Option.some.injEq, Prod.mk.injEq] at hb
        obtain ⟨rfl, rfl, rfl⟩ := hb
        exact ⟨by simp [Instr.sliceBounds], Nat.zero_le _, hlc, Nat.le_refl _, fun _ => rfl⟩
      | some v =>
        obtain ⟨v', rfl, hv⟩ := hlo v rfl
        cases hbd : bound (some v) 0 len with
        | none => rw [hbd] at hb; simp at hb
        | some x =>
          rw [hbd] at hb
          simp only [Option.some.injEq, Prod.mk.injEq] at hb
          obtain ⟨rfl, rfl, rfl⟩ := hb
          obtain ⟨h1, h2⟩ := bound_run (P := P) (w := w) hv (Nat.le_refl len) (code := if (none : Option Value).isSome then .slice3C else .sliceB) hbd
          exact ⟨by simp [Instr.sliceBounds] at h1 ⊢; simp [h1], h2, hlc, Nat.le_refl _, fun _ => rfl⟩
    | some u =>
      obtain ⟨u', rfl, hu⟩ := hhi u rfl
      cases hbd : bound (some u) len cap with
      | none => rw [hbd] at hb; simp at hb
      | some y =>
        rw [hbd] at hb
        simp only [Option.isSome_none, Bool.false_and] at hb
        obtain ⟨h1, h2⟩ := bound_run (P := P) (w := w) hu hcap (code := if isSlice then .sliceAcap else .sliceAlen) hbd
        cases lo with
        | none =>
          have e := hlo0 rfl
          subst e
          simp only [bound_none, Option.some.injEq, Prod.mk.injEq] at hb
          obtain ⟨rfl, rfl, rfl⟩ := hb
          exact ⟨by simp [Instr.sliceBounds, h1], Nat.zero_le _, h2, Nat.le_refl _, fun _ => rfl⟩
        | some v =>
          obtain ⟨v', rfl, hv⟩ := hlo v rfl
          cases hbd2 : bound (some v) 0 y with
          | none => rw [hbd2] at hb; simp at hb
          | some x =>
            rw [hbd2] at hb
            simp only [Option.some.injEq, Prod.mk.injEq] at hb
            obtain ⟨rfl, rfl, rfl⟩ := hb
            obtain ⟨h3, h4⟩ := bound_run (P := P) (w := w) hv (Nat.le_refl y) (code := if (none : Option Value).isSome then .slice3C else .sliceB) hbd2
            simp only [Option.isSome_none, Bool.false_eq_true, if_false] at h3
            exact ⟨by simp [Instr.sliceBounds, h1, h3], h4, h2, Nat.le_refl _, fun _ => rfl⟩
  | some t =>
    obtain ⟨t', rfl, ht⟩ := hmx t rfl
    cases hbt : bound (some t) cap cap with
    | none => rw [hbt] at hb; simp at hb
    | some z =>
      rw [hbt] at hb
      simp only at hb
      obtain ⟨h5, h6⟩ := bound_run (P := P) (w := w) ht hcap (code := if isSlice then .slice3Acap else .slice3Alen) hbt
      cases hi with
      | none => cases hq : bound none len z <;> rw [hq] at hb <;> simp at hb
      | some u =>
        obtain ⟨u', rfl, hu⟩ := hhi u rfl
        cases hbd : bound (some u) len z with
        | none => rw [hbd] at hb; simp at hb
        | some y =>
          rw [hbd] at hb
          simp only [Option.isSome_some, Option.isNone_some, Bool.and_false] at hb
          obtain ⟨h1, h2⟩ := bound_run (P := P) (w := w) hu (Nat.le_refl z) (code := .slice3B) hbd
          cases lo with
          | none =>
            have e := hlo0 rfl
            subst e
            simp only [bound_none, Option.some.injEq, Prod.mk.injEq] at hb
            obtain ⟨rfl, rfl, rfl⟩ := hb
            exact ⟨by simp [Instr.sliceBounds, h5, h1], Nat.zero_le _, h2, h6, fun e => by cases e⟩
          | some v =>
            obtain ⟨v', rfl, hv⟩ := hlo v rfl
            cases hbd2 : bound (some v) 0 y with
            | none => rw [hbd2] at hb; simp at hb
            | some x =>
              rw [hbd2] at hb
              simp only [Option.some.injEq, Prod.mk.injEq] at hb
              obtain ⟨rfl, rfl, rfl⟩ := hb
              obtain ⟨h3, h4⟩ := bound_run (P := P) (w := w) hv (Nat.le_refl y) (code := .slice3C) hbd2
              exact ⟨by simp [Instr.sliceBounds, h5, h1, h3], h4, h2, h6, fun e => by cases e⟩
end Go.Proofs.YtiffnkmbmenhfaaDoor.Run
/-! Slices of slices and of arrays. -/
namespace Go.Proofs.YtiffnkmbmenhfaaDoor.Run
open Go Go.RowKit
set_option linter.unusedVariables false
set_option linter.unusedSimpArgs false

def ORelV (ρ : Ren) (x x' : Option Value) : Prop := (∀ v, x = some v → ∃ v', x' = some v' ∧ VRel ρ v v') ∧ (x = none → x' = none)
theorem aslice_run {P : Program} {ρ : Ren} {w : World} {t : TypeId} {v v' : Value} {lo hi mx lo' hi2 mx' : Option Value} (hv : VRel ρ v v') (hlo : ORelV ρ lo lo') (hhi : ORelV ρ hi hi2) (hmx : ORelV ρ mx mx')
    {r : Value} (h : aslice P t v lo hi mx = some r) : ∃ r', (Instr.sliceAt t v' lo' hi2 mx').run P w = .ok r' w ∧ VRel ρ r r' := by
  unfold aslice at h
  have hmxs : mx'.isSome = mx.isSome := by
    cases hm : mx with
    | none => rw [hmx.2 hm]; 
    | some u => obtain ⟨u', e, _⟩ := hmx.1 u hm; rw [e]; rfl
  cases hu : P.underlying t with
  | none => rw [hu] at h; simp at h
  | some d =>
    rw [hu] at h
    cases d with
    | array n e =>
      cases hv with
      | ptr a p hp =>
        simp only at h
        cases hi' : P.info? e with
        | none => rw [hi'] at h; simp at h
        | some i =>
          rw [hi'] at h
          cases hb : bounds n n lo hi mx with
          | none => rw [hb] at h; simp at h
          | some q =>
            obtain ⟨l, h1, m⟩ := q
            rw [hb] at h
            simp only [Option.some.injEq] at h
            subst h
            obtain ⟨b1, b2, b3, b4, b5⟩ := bounds_run (P := P) (w := w) false hlo.1 hlo.2 hhi.1 hhi.2 hmx.1 hmx.2 (Nat.le_refl n) (Nat.le_refl n) hb
            have hm : (if mx.isSome = true then m else n) = m := by
              cases hmx0 : mx with
              | none => simp [b5 hmx0]
              | some u => simp
            rw [hm] at b1
            refine ⟨.slice (some (if m = l then ⟨p.b, a.off + p.s, none⟩ else (⟨p.b, a.off + p.s, none⟩ : Addr).add (l * i.size))) (h1 - l) (m - l), ?_, ?_⟩
            · simp [Instr.sliceAt, run_underlying hu, Instr.sureAddr, b1, sizeOf, typeInfo, hi']
            · by_cases hml : m = l
              · rw [if_pos hml, if_pos hml]
                exact .slice ⟨a.block, a.off, none⟩ p _ _ hp rfl (by omega)
              · rw [if_neg hml, if_neg hml]
                have := VRel.slice (ρ := ρ) ⟨a.block, a.off + l * i.size, none⟩ p (h1 - l) (m - l) hp rfl (by omega)
                have e2 : (⟨p.b, a.off + p.s, none⟩ : Addr).add (l * i.size) = ⟨p.b, a.off + l * i.size + p.s, none⟩ := by
                  unfold Addr.add
                  by_cases h0 : l * i.size = 0
                  · simp [h0]
                  · rw [if_neg h0]
                    simp only [Addr.mk.injEq, true_and, and_true]
                    omega
                rw [e2]
                exact this
      | _ => simp at h
    | slice e =>
      have sl : ∀ (a : Addr) (p : Spot) (len cap cap' : Nat), ρ a.block = some p → len ≤ cap → cap ≤ cap' → (a.spot = none → cap = cap') → (∀ z, a.spot = some z → a.off + p.s + cap' * z ≤ p.e) → (∀ z, a.spot = some z → 0 < z) →
          aslice P t (.slice (some a) len cap) lo hi mx = some r →
          ∃ r', (Instr.sliceAt t (.slice (some ⟨p.b, a.off + p.s, none⟩) len cap') lo' hi2 mx').run P w = .ok r' w ∧ VRel ρ r r' := by
        intro a p len cap cap' hp hl hc hx hz hz0 h
        unfold aslice at h
        rw [hu] at h
        simp only at h
        cases hi' : P.info? e with
        | none => rw [hi'] at h; simp at h
        | some i =>
          rw [hi'] at h
          cases hb : bounds len cap lo hi mx with
          | none => rw [hb] at h; simp at h
          | some q =>
            obtain ⟨l, h1, m⟩ := q
            rw [hb] at h
            simp only at h
            obtain ⟨b1, b2, b3, b4, b5⟩ := bounds_run (P := P) (w := w) true hlo.1 hlo.2 hhi.1 hhi.2 hmx.1 hmx.2 hl hc hb
            have add : ∀ k, (⟨p.b, a.off + p.s, none⟩ : Addr).add k = ⟨p.b, a.off + k + p.s, none⟩ := by
              intro k
              unfold Addr.add
              by_cases h0 : k = 0
              · simp [h0]
              · rw [if_neg h0]
                simp only [Addr.mk.injEq, true_and, and_true]
                omega
            have run : ∀ m', (if mx.isSome = true then m else cap') = m' → (Instr.sliceAt t (.slice (some ⟨p.b, a.off + p.s, none⟩) len cap') lo' hi2 mx').run P w =
                .ok (.slice (some (if m' = l then ⟨p.b, a.off + p.s, none⟩ else ⟨p.b, a.off + l * i.size + p.s, none⟩)) (h1 - l) (m' - l)) w := by
              intro m' hm'
              rw [hm'] at b1
              by_cases hml : m' = l
              · simp [Instr.sliceAt, Instr.slice, run_underlying hu, b1, sizeOf, typeInfo, hi', hml]
              · simp [Instr.sliceAt, Instr.slice, run_underlying hu, b1, sizeOf, typeInfo, hi', hml, add]
            have exact_ : ∀ (sp : Option Nat), sp = none → VRel ρ (.slice (some { block := a.block, off := if m = l then a.off else a.off + l * i.size, spot := sp }) (h1 - l) (m - l))
                (.slice (some (if m = l then ⟨p.b, a.off + p.s, none⟩ else ⟨p.b, a.off + l * i.size + p.s, none⟩)) (h1 - l) (m - l)) := by
              intro sp hsp
              subst hsp
              by_cases hml : m = l
              · rw [if_pos hml, if_pos hml]
                exact .slice ⟨a.block, a.off, none⟩ p _ _ hp rfl (by omega)
              · rw [if_neg hml, if_neg hml]
                exact .slice ⟨a.block, a.off + l * i.size, none⟩ p _ _ hp rfl (by omega)
            cases hsp : a.spot with
            | none =>
              rw [hsp] at h
              simp only [Option.some.injEq] at h
              subst h
              have hm : (if mx.isSome = true then m else cap') = m := by
                cases hmx0 : mx with
                | none => simp [b5 hmx0, hx hsp]
                | some u => simp
              exact ⟨_, run m hm, exact_ none rfl⟩
            | some z =>
              rw [hsp] at h
              simp only at h
              split at h
              · rename_i hzi
                obtain ⟨hzi, hzn⟩ := hzi
                subst hzi
                have hez := hz _ hsp
                split at h
                · rename_i hc3
                  simp only [Option.some.injEq] at h
                  subst h
                  by_cases hms : mx.isSome = true
                  · rw [if_pos hms]
                    exact ⟨_, run m (by rw [if_pos hms]), exact_ none rfl⟩
                  · rw [if_neg hms]
                    have hmx0 : mx = none := by cases mx <;> simp_all
                    have hmc := b5 hmx0
                    refine ⟨_, run cap' (by rw [if_neg hms]), ?_⟩
                    have hlc : l ≤ cap' := by omega
                    have hmul : l * i.size + (cap' - l) * i.size = cap' * i.size := by rw [← Nat.add_mul]; congr 1; omega
                    have hpos : 0 < i.size := hz0 _ hsp
                    by_cases hl0 : l = 0
                    · subst hl0
                      simp only [Nat.zero_mul, Nat.add_zero, ite_self]
                      exact .grown ⟨a.block, a.off, some i.size⟩ p i.size _ _ _ hp rfl hpos (by omega) (by omega) (by simpa using hez)
                    · have hml : m ≠ l := by
                        rcases hc3 with h3 | h3 | h3
                        · exact absurd h3 hms
                        · exact h3
                        · exact absurd h3 hl0
                      have hcl : cap' ≠ l := by omega
                      rw [if_neg hml, if_neg hcl]
                      exact .grown ⟨a.block, a.off + l * i.size, some i.size⟩ p i.size _ _ _ hp rfl hpos (by omega) (by omega) (by simp only; omega)
                · rename_i hc3
                  simp only [Option.some.injEq] at h
                  subst h
                  have hms : ¬ mx.isSome = true := fun hh => hc3 (.inl hh)
                  have hml : m = l := Classical.byContradiction fun hh => hc3 (.inr (.inl hh))
                  refine ⟨_, run cap' (by rw [if_neg hms]), ?_⟩
                  have h0 : h1 - l = 0 := by omega
                  rw [h0]
                  by_cases hcl : cap' = l
                  · rw [if_pos hcl]
                    exact .void _ _ _ _ rfl
                  · rw [if_neg hcl]
                    exact .void _ _ _ _ rfl
              · simp at h
      cases hv with
      | nilSlice =>
        simp only at h
        cases hi' : P.info? e with
        | none => rw [hi'] at h; simp at h
        | some i =>
          rw [hi'] at h
          cases hb : bounds 0 0 lo hi mx with
          | none => rw [hb] at h; simp at h
          | some q =>
            obtain ⟨l, h1, m⟩ := q
            rw [hb] at h
            simp only [Option.some.injEq] at h
            subst h
            obtain ⟨b1, b2, b3, b4, b5⟩ := bounds_run (P := P) (w := w) true hlo.1 hlo.2 hhi.1 hhi.2 hmx.1 hmx.2 (Nat.le_refl 0) (Nat.le_refl 0) hb
            obtain ⟨rfl, rfl, rfl⟩ : l = 0 ∧ h1 = 0 ∧ m = 0 := by omega
            exact ⟨.slice none 0 0, by simp [Instr.sliceAt, Instr.slice, run_underlying hu, b1, sizeOf, typeInfo, hi'], .nilSlice⟩
      | void a b o c hs =>
        simp only [hs] at h
        cases hi' : P.info? e with
        | none => rw [hi'] at h; simp at h
        | some i =>
          rw [hi'] at h
          cases hb : bounds 0 0 lo hi mx with
          | none => rw [hb] at h; simp at h
          | some q =>
            obtain ⟨l, h1, m⟩ := q
            rw [hb] at h
            simp at h
      | slice a p len cap hp hs hl => exact sl a p len cap cap hp hl (Nat.le_refl _) (fun _ => rfl) (fun z hz => by rw [hs] at hz; cases hz) (fun z hz => by rw [hs] at hz; cases hz) (by unfold aslice; rw [hu]; exact h)
      | grown a p z len cap cap' hp hs hz hl hc he => exact sl a p len cap cap' hp hl hc (fun hn => by rw [hs] at hn; cases hn) (fun z' hz' => by rw [hs] at hz'; injection hz' with hz'; subst hz'; exact he) (fun z' hz' => by rw [hs] at hz'; injection hz' with hz'; subst hz'; exact hz) (by unfold aslice; rw [hu]; exact h)
      | _ => simp at h
    | _ => simp at h
end Go.Proofs.YtiffnkmbmenhfaaDoor.Run
