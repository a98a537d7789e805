import Derived.Test.YtiffnkmbmenhfaaDoorT0
import Derived.ChangeArms
import Derived.Deep.Slices
import Derived.ChangeSlices
/-! Arguments that read as data, opened: for a type of numbers, strings, slices and structs the cells are the cells of a value. Over any program. -/
namespace Go.Proofs.YtiffnkmbmenhfaaDoor.Open
open Go.RowKit Go.Deep Go.Proofs.YtiffnkmbmenhfaaDoorW.PrintWords
section
variable {H : Type} {enc : TypeId × Value → H} {P : Program} {w : World} {base : Nat} {sp : Nat → Bool} {held : Bool}
/-- What reads as data at type t (with so much fuel) is a value of d, of which G holds. -/
def Opens (enc : TypeId × Value → H) (P : Program) (w : World) (base : Nat) (sp : Nat → Bool) (held : Bool) (fuel : Nat) (t : TypeId) {α : Type} (d : Kd α) (G : α → Prop) : Prop :=
  ∀ cs x, DataW.trod enc P w base sp held fuel t cs = some x → ∃ v, d.K w v cs ∧ G v
theorem Opens.imp {α : Type} {d : Kd α} {G G' : α → Prop} {fuel : Nat} {t : TypeId} (h : Opens enc P w base sp held fuel t d G) (hg : ∀ v, G v → G' v) : Opens enc P w base sp held fuel t d G' :=
  fun cs x hx => let ⟨v, h1, h2⟩ := h cs x hx; ⟨v, h1, hg v h2⟩
theorem opens_int {t : TypeId} {k : IntKind} (ht : P.underlying t = some (.int k)) (fuel : Nat) : Opens enc P w base sp held fuel t (Kd.int k) (fun n => (Lit.int k n).wf = true) := by
  intro cs x hx
  obtain ⟨n, rfl, _, h⟩ := DataW.trod_int ht hx
  exact ⟨n, rfl, h⟩
theorem opens_string {t : TypeId} (ht : P.underlying t = some .string) (fuel : Nat) : Opens enc P w base sp held fuel t Kd.string (fun s => s.size ≤ maxLen) := by
  intro cs x hx
  obtain ⟨s, rfl, _, h⟩ := DataW.trod_string ht hx
  exact ⟨s, rfl, h⟩
theorem opens_bool {t : TypeId} (ht : P.underlying t = some .bool) (fuel : Nat) : Opens enc P w base sp held fuel t Kd.bool (fun _ => True) := by
  intro cs x hx
  cases fuel with
  | zero => simp [DataW.trod] at hx
  | succ n =>
    unfold DataW.trod at hx
    rw [ht] at hx
    cases cs with
    | nil => simp at hx
    | cons c cs =>
      cases cs with
      | cons c' cs => cases c <;> simp at hx
      | nil => cases c with
        | bool b => exact ⟨b, rfl, trivial⟩
        | _ => simp at hx
theorem list_of_each {α : Type} {Q : Nat → α → Prop} {len : Nat} (h : ∀ i, i < len → ∃ v, Q i v) : ∃ l : List α, l.length = len ∧ ∀ i v, l[i]? = some v → Q i v := by
  induction len with
  | zero => exact ⟨[], rfl, fun i v hv => by simp at hv⟩
  | succ m ih =>
    obtain ⟨l, h1, h2⟩ := ih (fun i hi => h i (by omega))
    obtain ⟨v, hv⟩ := h m (by omega)
    refine ⟨l ++ [v], by simp [h1], fun i u hu => ?_⟩
    rcases Nat.lt_or_ge i l.length with hi | hi
    · rw [List.getElem?_append_left hi] at hu
      exact h2 i u hu
    · have h3 := (List.getElem?_eq_some_iff.1 hu).1
      simp at h3
      have h4 : i = l.length := by omega
      subst h4
      simp at hu
      subst hu
      rw [h1]
      exact hv
theorem opens_slice_of {t e : TypeId} (ht : P.underlying t = some (.slice e)) {α : Type} {d : Kd α} {G : α → Prop} (hsz : d.sz = P.cellsOf e) {fuel : Nat} (h : ∀ n, n < fuel → Opens enc P w base sp held n e d G) :
    ∀ cs x, DataW.trod enc P w base sp held fuel t cs = some x → ∃ A c, ∃ l : List α, cs = [.slice A l.length c] ∧ l.length ≤ c ∧ d.C w A l.length l ∧ l.length ≤ maxLen ∧ ∀ v ∈ l, G v := by
  intro cs x hx
  rcases DataW.trod_slice ht hx with ⟨rfl, _⟩ | ⟨a, len, cap, elems, rest, n, hn, rfl, rfl, hb, hl, hm, hlen, hel, _, _⟩
  · exact ⟨none, 0, [], rfl, Nat.le_refl _, ⟨rfl, by simp, fun h => by simp at h⟩, by simp, by simp⟩
  · have hn' : n < fuel := by omega
    have each : ∀ i, i < len → ∃ v : α, (∃ c, c.length = d.sz ∧ d.K w v c ∧ ∀ j u, c[j]? = some u → w.cell? (a.add (i * d.sz + j)) = some u) ∧ G v := by
      intro i hi
      have h1 := hel i hi
      rw [List.getElem?_eq_getElem (by omega)] at h1
      obtain ⟨c, h2, h3⟩ := Option.bind_eq_some_iff.1 h1
      obtain ⟨v, hv, hg⟩ := h n hn' c _ h3
      obtain ⟨_, hcl, hcc⟩ := World.cells?_some h2
      refine ⟨v, ⟨c, d.K_len hv, hv, fun j u hu => ?_⟩, hg⟩
      have hj : j < c.length := (List.getElem?_eq_some_iff.1 hu).1
      have := hcc j (by omega)
      rw [Go.Deep.add_add, ← hsz] at this
      rw [this, hu]
    obtain ⟨l, hll, hle⟩ := list_of_each each
    subst hll
    refine ⟨some a, cap, l, rfl, hl, ⟨rfl, by simp only [maxLen] at hm; omega, fun _ => ⟨a, rfl, fun j p hp => (hle j p hp).1⟩⟩, by omega, fun v hv => ?_⟩
    obtain ⟨i, hi, rfl⟩ := List.getElem_of_mem hv
    exact (hle i _ (List.getElem?_eq_getElem hi)).2
theorem opens_slice {t e : TypeId} (ht : P.underlying t = some (.slice e)) {α : Type} {d : Kd α} {G : α → Prop} (hsz : d.sz = P.cellsOf e) (q : Nat) {fuel : Nat} (h : ∀ n, n < fuel → Opens enc P w base sp held n e d G) :
    Opens enc P w base sp held fuel t (Kd.slice q d) (fun l => l.length ≤ maxLen ∧ ∀ v ∈ l, G v) := by
  intro cs x hx
  obtain ⟨A, c, l, h1, h2, h3, h4, h5⟩ := opens_slice_of ht hsz h cs x hx
  exact ⟨l, ⟨A, c, h1, h2, h3⟩, h4, h5⟩
/-! ### structs, field by field -/
/-- The cells from an offset on are the cells of a value. -/
def Seg (w : World) {α : Type} (d : Kd α) (G : α → Prop) (cs : List Value) (off : Nat) : Prop := ∃ v, d.K w v (cs.drop off) ∧ G v
theorem seg_last {α : Type} {d : Kd α} {G : α → Prop} {fs : Array Field} {n : Nat} {cs : List Value} {xs : List (DataW H × List MemPlace)} (hxs : xs.length = fs.size)
    (hf : ∀ (i : Nat) (f : Field), fs[i]? = some f → DataW.trod enc P w base sp held n f.type ((cs.drop f.offset).take (P.cellsOf f.type)) = xs[i]?) (i : Nat) (f : Field) (hi : fs[i]? = some f)
    (ho : Opens enc P w base sp held n f.type d G) (hend : f.offset + P.cellsOf f.type = cs.length) : Seg w d G cs f.offset := by
  have h1 := hf i f hi
  have hi' : i < xs.length := by rw [hxs]; exact (Array.getElem?_eq_some_iff.1 hi).1
  rw [List.getElem?_eq_getElem hi'] at h1
  obtain ⟨v, hv, hg⟩ := ho _ _ h1
  rw [List.take_of_length_le (by rw [List.length_drop]; omega)] at hv
  exact ⟨v, hv, hg⟩
theorem seg_next {α β : Type} {a : Kd α} {b : Kd β} {G : α → Prop} {G' : β → Prop} {fs : Array Field} {n : Nat} {cs : List Value} {xs : List (DataW H × List MemPlace)} (hxs : xs.length = fs.size)
    (hf : ∀ (i : Nat) (f : Field), fs[i]? = some f → DataW.trod enc P w base sp held n f.type ((cs.drop f.offset).take (P.cellsOf f.type)) = xs[i]?) (i : Nat) (f : Field) (hi : fs[i]? = some f)
    (ho : Opens enc P w base sp held n f.type a G) {off : Nat} (hoff : f.offset + P.cellsOf f.type = off) (hr : Seg w b G' cs off) : Seg w (Kd.pair a b) (fun v => G v.1 ∧ G' v.2) cs f.offset := by
  have h1 := hf i f hi
  have hi' : i < xs.length := by rw [hxs]; exact (Array.getElem?_eq_some_iff.1 hi).1
  rw [List.getElem?_eq_getElem hi'] at h1
  obtain ⟨v, hv, hg⟩ := ho _ _ h1
  obtain ⟨u, hu, hg'⟩ := hr
  refine ⟨(v, u), ⟨_, _, ?_, hv, hu⟩, hg, hg'⟩
  rw [← hoff, ← List.drop_drop, List.take_append_drop]
theorem opens_iso {α β : Type} {d : Kd β} {G : β → Prop} {f : α → β} (g : β → α) (hg : ∀ v, f (g v) = v) {fuel : Nat} {t : TypeId} (h : Opens enc P w base sp held fuel t d G) : Opens enc P w base sp held fuel t (Kd.iso d f) (fun _ => True) := by
  intro cs x hx
  obtain ⟨v, hv, _⟩ := h cs x hx
  exact ⟨g v, by show d.K w (f (g v)) cs; rw [hg]; exact hv, trivial⟩
theorem Seg.whole {α : Type} {d : Kd α} {G : α → Prop} {cs : List Value} (h : Seg w d G cs 0) : ∃ v, d.K w v cs ∧ G v := h
end
end Go.Proofs.YtiffnkmbmenhfaaDoor.Open
