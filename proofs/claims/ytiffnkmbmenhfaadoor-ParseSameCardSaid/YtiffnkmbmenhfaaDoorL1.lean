import Derived.Test.YtiffnkmbmenhfaaDoorL0
import Derived.WideShapes
import Derived.Laws.Strings
/-! ParseSame: the plain law. -/
namespace Go.Proofs.YtiffnkmbmenhfaaDoor.Cx
open Go.RowKit Go.Proofs.YtiffnkmbmenhfaaDoorW.PrintWords Go.Proofs.YtiffnkmbmenhfaaDoorW.PrintLast Go.Proofs.YtiffnkmbmenhfaaDoorW.PrintMore
attribute [local go_sem] max2_int min2_int max_two min_two max_three min_three max_four min_four   -- for this text's walks alone
set_option linter.unusedVariables false
set_option linter.unusedSimpArgs false
theorem ev_unf {α : Type} {g : Nat → Option α} {r : α} (h : Ev (fun k => g (k + 1)) r) : Ev g r := Ev.step (fun _ => rfl) h
theorem ev_pos {α : Type} {c : Prop} [Decidable c] {A B : Nat → Option α} {r : α} (h : c) (k : Ev A r) : Ev (fun n => if c then A n else B n) r := by
  simp only [if_pos h]; exact k
theorem ev_neg {α : Type} {c : Prop} [Decidable c] {A B : Nat → Option α} {r : α} (h : ¬ c) (k : Ev B r) : Ev (fun n => if c then A n else B n) r := by
  simp only [if_neg h]; exact k
theorem ev_eq {α : Type} {g : Nat → Option α} {r q : α} (h : Ev g r) (e : r = q) : Ev g q := e ▸ h
theorem ev_le {α : Type} {g f : Nat → Option α} {r : α} (h : ∀ k r, g k = some r → f k = some r) (e : Ev g r) : Ev f r := by
  obtain ⟨K, hK⟩ := e
  exact ⟨K, fun k hk => h k r (hK k hk)⟩
theorem wrap_up {i : Int} (h0 : 0 ≤ i) (h1 : i < 9223372036854775807) : wrap64 (i + 1) = i + 1 := by unfold wrap64; omega
theorem bs_iff (a b : ByteArray) : a.toList = b.toList ↔ a = b := by
  constructor
  · intro h
    rw [ByteArray.toList_eq, ByteArray.toList_eq] at h
    exact Go.WideShapes.bytes_inj h
  · intro h; rw [h]
/-- Whether two things are one. -/
noncomputable def dec (p : Prop) : Bool := @decide p (Classical.propDecidable p)
theorem dec_true {p : Prop} (h : p) : dec p = true := @decide_eq_true p (Classical.propDecidable p) h
theorem dec_false {p : Prop} (h : ¬ p) : dec p = false := @decide_eq_false p (Classical.propDecidable p) h
/-- A comparison of two lists, element by element. -/
theorem loop_gen {α : Type} (z : α) (g : Nat → Int → Option Bool) (l l' : List α) (hl : l.length = l'.length) (hb : l.length ≤ maxLen)
    (h0 : Ev (fun k => g k (l.length : Int)) true)
    (hs : ∀ i : Int, 0 ≤ i → i < l.length → ∀ v, Ev (fun k => g k (i + 1)) v → Ev (fun k => g k i) (dec (l.getD i.toNat z = l'.getD i.toNat z) && v)) : Ev (fun k => g k 0) (dec (l = l')) := by
  have key : ∀ (n : Nat) (i : Int), 0 ≤ i → i + n = l.length → Ev (fun k => g k i) (dec (l.drop i.toNat = l'.drop i.toNat)) := by
    intro n
    induction n with
    | zero =>
      intro i h1 h2
      have e : i = l.length := by omega
      subst e
      rw [List.drop_of_length_le (by omega), List.drop_of_length_le (by omega), dec_true rfl]
      exact h0
    | succ n ih =>
      intro i h1 h2
      have a := ih (i + 1) (by omega) (by omega)
      have b := hs i h1 (by omega) _ a
      refine ev_eq b ?_
      have e1 : i.toNat < l.length := by omega
      have e2 : i.toNat < l'.length := by omega
      have e3 : (i + 1).toNat = i.toNat + 1 := by omega
      have f1 : l.drop i.toNat = l.getD i.toNat z :: l.drop (i + 1).toNat := by
        rw [e3, List.drop_eq_getElem_cons e1]; simp [e1]
      have f2 : l'.drop i.toNat = l'.getD i.toNat z :: l'.drop (i + 1).toNat := by
        rw [e3, List.drop_eq_getElem_cons e2]; simp [e2]
      by_cases c1 : l.getD i.toNat z = l'.getD i.toNat z
      · by_cases c2 : l.drop (i + 1).toNat = l'.drop (i + 1).toNat
        · rw [dec_true c1, dec_true c2, dec_true (by rw [f1, f2, c1, c2])]; rfl
        · rw [dec_true c1, dec_false c2, dec_false (by rw [f1, f2]; intro h; injection h with _ h; exact c2 h)]; rfl
      · have hd : dec (l.drop i.toNat = l'.drop i.toNat) = false := dec_false (by rw [f1, f2]; intro h; injection h with h _; exact c1 h)
        rw [dec_false c1, hd]; rfl
  have := key l.length 0 (by omega) (by omega)
  simpa using this
theorem mem_getD {α : Type} (z : α) {l : List α} {i : Int} (h0 : 0 ≤ i) (h : i < l.length) : l.getD i.toNat z ∈ l := by
  have h2 : i.toNat < l.length := by omega
  simp [h2]
theorem fields_ev (l l' : List S70) (hb : l.length ≤ maxLen) : Ev (fun k => rF.f k l l') (dec (l = l')) := by
  have hb2 : (l.length : Int) ≤ 9223372036854775807 := by simp only [maxLen] at hb; omega
  unfold rF.f
  by_cases hl : l.length = l'.length
  · refine ev_pos (by omega) (loop_gen z70 (fun k i => rF.l0 k l l' i) l l' hl hb ?_ ?_)
    · refine ev_unf ?_
      simp only [rF.l0]
      exact ev_neg (by omega) (Ev.now _)
    · intro i h1 h2 v hv
      refine ev_unf ?_
      simp only [rF.l0]
      rw [wrap_up h1 (by omega)]
      refine ev_pos (by omega) (ev_pos h1 (ev_pos (by omega) ?_))
      show Ev (fun k => if (!(((rd_T70 l i).f0).toList == ((rd_T70 l' i).f0).toList) || !(((rd_T70 l i).f1).toList == ((rd_T70 l' i).f1).toList)) = true then some false else rF.l0 k l l' (i + 1)) (dec (rd_T70 l i = rd_T70 l' i) && v)
      generalize rd_T70 l i = X
      generalize rd_T70 l' i = Y
      by_cases d : X = Y
      · refine ev_eq (ev_neg (by rw [d]; simp) hv) (by rw [dec_true d]; rfl)
      · refine ev_eq (ev_pos ?_ (Ev.now _)) (by rw [dec_false d]; rfl)
        cases X with
        | mk a b => cases Y with
          | mk a' b' =>
            by_cases e1 : a = a'
            · by_cases e2 : b = b'
              · exact absurd (by rw [e1, e2]) d
              · have : ¬ b.toList = b'.toList := fun h => e2 ((bs_iff _ _).1 h)
                simp [this]
            · have : ¬ a.toList = a'.toList := fun h => e1 ((bs_iff _ _).1 h)
              simp [this]
  · refine ev_eq (ev_neg (by omega) (Ev.now _)) (dec_false (fun h => hl (by rw [h]))).symm
theorem exprs_list (l l' : List S49) (hb : l.length ≤ maxLen) (hq : ∀ x, x ∈ l → ∀ m, Ev (fun k => rE.f k x.f4 m) (dec (x.f4 = m))) : Ev (fun k => rE.f k l l') (dec (l = l')) := by
  have hb2 : (l.length : Int) ≤ 9223372036854775807 := by simp only [maxLen] at hb; omega
  refine ev_unf ?_
  simp only [rE.f]
  by_cases hl : l.length = l'.length
  · refine ev_pos (by omega) (loop_gen z49 (fun k i => rE.l0 k l l' i) l l' hl hb ?_ ?_)
    · refine ev_unf ?_
      simp only [rE.l0]
      exact ev_neg (by omega) (Ev.now _)
    · intro i h1 h2 v hv
      refine ev_unf ?_
      simp only [rE.l0]
      rw [wrap_up h1 (by omega)]
      refine ev_pos (by omega) (ev_pos h1 (ev_pos (by omega) ?_))
      have hm := mem_getD z49 h1 h2
      change Ev _ (dec (rd_T49 l i = rd_T49 l' i) && v)
      have hm2 : rd_T49 l i ∈ l := hm
      generalize rd_T49 l i = X at hm2 ⊢
      generalize rd_T49 l' i = Y
      clear hm
      by_cases d0 : X.f0 = Y.f0
      case neg => exact ev_eq (ev_neg d0 (Ev.now _)) (by rw [dec_false (fun h => d0 (by rw [h]))]; rfl)
      refine ev_pos d0 ?_
      by_cases d1 : X.f1 = Y.f1
      case neg => exact ev_eq (ev_neg d1 (Ev.now _)) (by rw [dec_false (fun h => d1 (by rw [h]))]; rfl)
      refine ev_pos d1 ?_
      by_cases d2 : X.f2 = Y.f2
      case neg => exact ev_eq (ev_neg (fun h => d2 ((bs_iff _ _).1 h)) (Ev.now _)) (by rw [dec_false (fun h => d2 (by rw [h]))]; rfl)
      refine ev_pos ((bs_iff _ _).2 d2) ?_
      by_cases d3 : X.f3 = Y.f3
      case neg => exact ev_eq (ev_neg (fun h => d3 ((bs_iff _ _).1 h)) (Ev.now _)) (by rw [dec_false (fun h => d3 (by rw [h]))]; rfl)
      refine ev_pos ((bs_iff _ _).2 d3) ?_
      refine Ev.bind (hq X hm2 _) ?_
      by_cases d4 : X.f4 = Y.f4
      case neg =>
        rw [dec_false d4]
        exact ev_eq (ev_neg (by simp) (Ev.now _)) (by rw [dec_false (fun h => d4 (by rw [h]))]; rfl)
      rw [dec_true d4]
      refine ev_pos rfl ?_
      have e : X = Y := by
        cases X; cases Y
        simp only at d0 d1 d2 d3 d4
        subst d0 d1 d2 d3 d4
        rfl
      rw [dec_true e]
      exact hv
  · refine ev_eq (ev_neg (by omega) (Ev.now _)) (dec_false (fun h => hl (by rw [h]))).symm
inductive GoodE : S49 → Prop
  | mk (x : S49) (h : x.f4.length ≤ maxLen) (g : ∀ y, y ∈ x.f4 → GoodE y) : GoodE x
theorem exprs_good (x : S49) (h : GoodE x) : ∀ m, Ev (fun k => rE.f k x.f4 m) (dec (x.f4 = m)) := by
  induction h with
  | mk x h g ih => exact fun m => exprs_list x.f4 m h ih
theorem exprs_ev (l m : List S49) (hb : l.length ≤ maxLen) (hg : ∀ x, x ∈ l → GoodE x) : Ev (fun k => rE.f k l m) (dec (l = m)) := exprs_list l m hb fun x hx => exprs_good x (hg x hx)
theorem stmts_list (l l' : List S108) (hb : l.length ≤ maxLen) (h3 : ∀ x, x ∈ l → x.f3.length ≤ maxLen ∧ ∀ y, y ∈ x.f3 → GoodE y) (hq : ∀ x, x ∈ l → (∀ m, Ev (fun k => rS.f k x.f4 m) (dec (x.f4 = m))) ∧ (∀ m, Ev (fun k => rS.f k x.f5 m) (dec (x.f5 = m)))) : Ev (fun k => rS.f k l l') (dec (l = l')) := by
  have hb2 : (l.length : Int) ≤ 9223372036854775807 := by simp only [maxLen] at hb; omega
  refine ev_unf ?_
  simp only [rS.f]
  by_cases hl : l.length = l'.length
  · refine ev_pos (by omega) (loop_gen z108 (fun k i => rS.l0 k l l' i) l l' hl hb ?_ ?_)
    · refine ev_unf ?_
      simp only [rS.l0]
      exact ev_neg (by omega) (Ev.now _)
    · intro i h1 h2 v hv
      refine ev_unf ?_
      simp only [rS.l0]
      rw [wrap_up h1 (by omega)]
      refine ev_pos (by omega) (ev_pos h1 (ev_pos (by omega) ?_))
      have hm := mem_getD z108 h1 h2
      change Ev _ (dec (rd_T108 l i = rd_T108 l' i) && v)
      have hm2 : rd_T108 l i ∈ l := hm
      generalize rd_T108 l i = X at hm2 ⊢
      generalize rd_T108 l' i = Y
      clear hm
      by_cases d0 : X.f0 = Y.f0
      case neg => exact ev_eq (ev_neg d0 (Ev.now _)) (by rw [dec_false (fun h => d0 (by rw [h]))]; rfl)
      refine ev_pos d0 ?_
      by_cases d1 : X.f1 = Y.f1
      case neg => exact ev_eq (ev_neg (fun h => d1 ((bs_iff _ _).1 h)) (Ev.now _)) (by rw [dec_false (fun h => d1 (by rw [h]))]; rfl)
      refine ev_pos ((bs_iff _ _).2 d1) ?_
      by_cases d2 : X.f2 = Y.f2
      case neg => exact ev_eq (ev_neg (fun h => d2 ((bs_iff _ _).1 h)) (Ev.now _)) (by rw [dec_false (fun h => d2 (by rw [h]))]; rfl)
      refine ev_pos ((bs_iff _ _).2 d2) ?_
      refine Ev.bind (exprs_ev _ _ (h3 X hm2).1 (h3 X hm2).2) ?_
      by_cases d3 : X.f3 = Y.f3
      case neg =>
        rw [dec_false d3]
        exact ev_eq (ev_neg (by simp) (Ev.now _)) (by rw [dec_false (fun h => d3 (by rw [h]))]; rfl)
      rw [dec_true d3]
      refine ev_pos rfl ?_
      refine Ev.bind ((hq X hm2).1 _) ?_
      by_cases d4 : X.f4 = Y.f4
      case neg =>
        rw [dec_false d4]
        exact ev_eq (ev_neg (by simp) (Ev.now _)) (by rw [dec_false (fun h => d4 (by rw [h]))]; rfl)
      rw [dec_true d4]
      refine ev_pos rfl ?_
      refine Ev.bind ((hq X hm2).2 _) ?_
      by_cases d5 : X.f5 = Y.f5
      case neg =>
        rw [dec_false d5]
        exact ev_eq (ev_neg (by simp) (Ev.now _)) (by rw [dec_false (fun h => d5 (by rw [h]))]; rfl)
      rw [dec_true d5]
      refine ev_pos rfl ?_
      have e : X = Y := by
        cases X; cases Y
        simp only at d0 d1 d2 d3 d4 d5
        subst d0 d1 d2 d3 d4 d5
        rfl
      rw [dec_true e]
      exact hv
  · refine ev_eq (ev_neg (by omega) (Ev.now _)) (dec_false (fun h => hl (by rw [h]))).symm
inductive GoodS : S108 → Prop
  | mk (x : S108) (h3 : x.f3.length ≤ maxLen) (g3 : ∀ y, y ∈ x.f3 → GoodE y) (h4 : x.f4.length ≤ maxLen) (g4 : ∀ y, y ∈ x.f4 → GoodS y) (h5 : x.f5.length ≤ maxLen) (g5 : ∀ y, y ∈ x.f5 → GoodS y) : GoodS x
theorem GoodS.exprs {x : S108} (h : GoodS x) : x.f3.length ≤ maxLen ∧ ∀ y, y ∈ x.f3 → GoodE y := by cases h with | mk _ h3 g3 _ _ _ _ => exact ⟨h3, g3⟩
theorem stmts_good (x : S108) (h : GoodS x) : (∀ m, Ev (fun k => rS.f k x.f4 m) (dec (x.f4 = m))) ∧ (∀ m, Ev (fun k => rS.f k x.f5 m) (dec (x.f5 = m))) := by
  induction h with
  | mk x h3 g3 h4 g4 h5 g5 ih4 ih5 => exact ⟨fun m => stmts_list x.f4 m h4 (fun y hy => (g4 y hy).exprs) ih4, fun m => stmts_list x.f5 m h5 (fun y hy => (g5 y hy).exprs) ih5⟩
theorem stmts_ev (l m : List S108) (hb : l.length ≤ maxLen) (hg : ∀ x, x ∈ l → GoodS x) : Ev (fun k => rS.f k l m) (dec (l = m)) := stmts_list l m hb (fun x hx => (hg x hx).exprs) fun x hx => stmts_good x (hg x hx)
def GoodM (x : S74) : Prop := x.f2.length ≤ maxLen ∧ x.f4.length ≤ maxLen ∧ ∀ y, y ∈ x.f4 → GoodS y
theorem methods_ev (l l' : List S74) (hb : l.length ≤ maxLen) (hg : ∀ x, x ∈ l → GoodM x) : Ev (fun k => rM.f k l l') (dec (l = l')) := by
  have hb2 : (l.length : Int) ≤ 9223372036854775807 := by simp only [maxLen] at hb; omega
  unfold rM.f
  by_cases hl : l.length = l'.length
  · refine ev_pos (by omega) (loop_gen z74 (fun k i => rM.l0 k l l' i) l l' hl hb ?_ ?_)
    · refine ev_unf ?_
      simp only [rM.l0]
      exact ev_neg (by omega) (Ev.now _)
    · intro i h1 h2 v hv
      refine ev_unf ?_
      simp only [rM.l0]
      rw [wrap_up h1 (by omega)]
      refine ev_pos (by omega) (ev_pos h1 (ev_pos (by omega) ?_))
      have hm := mem_getD z74 h1 h2
      change Ev _ (dec (rd_T74 l i = rd_T74 l' i) && v)
      have hm2 : rd_T74 l i ∈ l := hm
      generalize rd_T74 l i = X at hm2 ⊢
      generalize rd_T74 l' i = Y
      clear hm
      by_cases d0 : X.f0 = Y.f0
      case neg => exact ev_eq (ev_neg (fun h => d0 ((bs_iff _ _).1 h)) (Ev.now _)) (by rw [dec_false (fun h => d0 (by rw [h]))]; rfl)
      refine ev_pos ((bs_iff _ _).2 d0) ?_
      by_cases d1 : X.f1 = Y.f1
      case neg => exact ev_eq (ev_pos (by simpa using d1) (Ev.now _)) (by rw [dec_false (fun h => d1 (by rw [h]))]; rfl)
      refine ev_neg (by simpa using d1) ?_
      by_cases d2 : X.f3 = Y.f3
      case neg => exact ev_eq (ev_neg (fun h => d2 ((bs_iff _ _).1 h)) (Ev.now _)) (by rw [dec_false (fun h => d2 (by rw [h]))]; rfl)
      refine ev_pos ((bs_iff _ _).2 d2) ?_
      refine Ev.bind (fields_ev _ _ (hg X hm2).1) ?_
      by_cases d3 : X.f2 = Y.f2
      case neg =>
        rw [dec_false d3]
        exact ev_eq (ev_neg (by simp) (Ev.now _)) (by rw [dec_false (fun h => d3 (by rw [h]))]; rfl)
      rw [dec_true d3]
      refine ev_pos rfl ?_
      refine Ev.bind (stmts_ev _ _ (hg X hm2).2.1 (hg X hm2).2.2) ?_
      by_cases d4 : X.f4 = Y.f4
      case neg =>
        rw [dec_false d4]
        exact ev_eq (ev_neg (by simp) (Ev.now _)) (by rw [dec_false (fun h => d4 (by rw [h]))]; rfl)
      rw [dec_true d4]
      refine ev_pos rfl ?_
      have e : X = Y := by
        cases X; cases Y
        simp only at d0 d1 d2 d3 d4
        subst d0 d1 d2 d3 d4
        rfl
      rw [dec_true e]
      exact hv
  · refine ev_eq (ev_neg (by omega) (Ev.now _)) (dec_false (fun h => hl (by rw [h]))).symm
def GoodC (x : S43) : Prop := x.f2.length ≤ maxLen ∧ x.f3.length ≤ maxLen ∧ ∀ y, y ∈ x.f3 → GoodM y
theorem classes_ev (l l' : List S43) (hb : l.length ≤ maxLen) (hg : ∀ x, x ∈ l → GoodC x) : Ev (fun k => rC.f k l l') (dec (l = l')) := by
  have hb2 : (l.length : Int) ≤ 9223372036854775807 := by simp only [maxLen] at hb; omega
  unfold rC.f
  by_cases hl : l.length = l'.length
  · refine ev_pos (by omega) (loop_gen z43 (fun k i => rC.l0 k i l l') l l' hl hb ?_ ?_)
    · refine ev_unf ?_
      simp only [rC.l0]
      exact ev_neg (by omega) (Ev.now _)
    · intro i h1 h2 v hv
      refine ev_unf ?_
      simp only [rC.l0]
      rw [wrap_up h1 (by omega)]
      refine ev_pos (by omega) (ev_pos h1 (ev_pos (by omega) ?_))
      have hm := mem_getD z43 h1 h2
      change Ev _ (dec (rd_T43 l i = rd_T43 l' i) && v)
      have hm2 : rd_T43 l i ∈ l := hm
      generalize rd_T43 l i = X at hm2 ⊢
      generalize rd_T43 l' i = Y
      clear hm
      by_cases d0 : X.f0 = Y.f0
      case neg => exact ev_eq (ev_neg (fun h => d0 ((bs_iff _ _).1 h)) (Ev.now _)) (by rw [dec_false (fun h => d0 (by rw [h]))]; rfl)
      refine ev_pos ((bs_iff _ _).2 d0) ?_
      by_cases d1 : X.f1 = Y.f1
      case neg => exact ev_eq (ev_neg (fun h => d1 ((bs_iff _ _).1 h)) (Ev.now _)) (by rw [dec_false (fun h => d1 (by rw [h]))]; rfl)
      refine ev_pos ((bs_iff _ _).2 d1) ?_
      refine Ev.bind (fields_ev _ _ (hg X hm2).1) ?_
      by_cases d2 : X.f2 = Y.f2
      case neg =>
        rw [dec_false d2]
        exact ev_eq (ev_neg (by simp) (Ev.now _)) (by rw [dec_false (fun h => d2 (by rw [h]))]; rfl)
      rw [dec_true d2]
      refine ev_pos rfl ?_
      refine Ev.bind (methods_ev _ _ (hg X hm2).2.1 (hg X hm2).2.2) ?_
      by_cases d3 : X.f3 = Y.f3
      case neg =>
        rw [dec_false d3]
        exact ev_eq (ev_neg (by simp) (Ev.now _)) (by rw [dec_false (fun h => d3 (by rw [h]))]; rfl)
      rw [dec_true d3]
      refine ev_pos rfl ?_
      have e : X = Y := by
        cases X; cases Y
        simp only at d0 d1 d2 d3
        subst d0 d1 d2 d3
        rfl
      rw [dec_true e]
      exact hv
  · refine ev_eq (ev_neg (by omega) (Ev.now _)) (dec_false (fun h => hl (by rw [h]))).symm
/-! The program's comparisons answer as the reference's, by rounds. -/
theorem fields_f (l l' : List S70) (k : Nat) (r : Bool) (h : rF.f k l l' = some r) : api_Field.f k l l' = some r := by
  have loop : ∀ (k : Nat) (i : Int) (r : Bool), rF.l0 k l l' i = some r → api_Field.l0 k l l' (l.length : Int) i = some r := by
    intro k
    induction k with
    | zero => intro i r h; simp [rF.l0] at h
    | succ k ih =>
      intro i r h
      simp only [rF.l0] at h
      simp only [api_Field.l0]
      by_cases c1 : i < (l.length : Int)
      · rw [if_pos c1] at h ⊢
        by_cases c2 : 0 ≤ i
        · rw [if_pos c2] at h ⊢
          by_cases c3 : i < (l'.length : Int)
          · rw [if_pos c3] at h
            rw [if_pos c1, if_pos c3]
            split
            · rename_i c; rw [if_pos c] at h; exact h
            · rename_i c; rw [if_neg c] at h; exact ih _ _ h
          · rw [if_neg c3] at h; simp at h
        · rw [if_neg c2] at h; simp at h
      · rw [if_neg c1] at h ⊢; exact h
  unfold rF.f at h
  unfold api_Field.f
  by_cases c : (l.length : Int) = (l'.length : Int)
  · rw [if_pos c] at h ⊢; exact loop k 0 r h
  · rw [if_neg c] at h ⊢; exact h
theorem methods_f (l l' : List S74) (k : Nat) (r : Bool) (h : rM.f k l l' = some r) : api_Method.f k l l' 0 = some r := by
  have loop : ∀ (k : Nat) (i : Int) (r : Bool), rM.l0 k l l' i = some r → api_Method.l0 k l' l (l.length : Int) i = some r := by
    intro k
    induction k with
    | zero => intro i r h; simp [rM.l0] at h
    | succ k ih =>
      intro i r h
      simp only [rM.l0] at h
      simp only [api_Method.l0, parse_sameMethod.f]
      by_cases c1 : i < (l.length : Int)
      · rw [if_pos c1] at h ⊢
        by_cases c2 : 0 ≤ i
        · rw [if_pos c2] at h ⊢
          by_cases c3 : i < (l'.length : Int)
          · rw [if_pos c3] at h
            rw [if_pos c1, if_pos c3]
            by_cases d1 : (rd_T74 l i).f0.toList = (rd_T74 l' i).f0.toList
            · rw [if_pos d1] at h ⊢
              by_cases d2 : (rd_T74 l i).f1 = (rd_T74 l' i).f1
              · rw [if_neg (by simpa using d2)] at h
                rw [if_pos (by simpa using d2)]
                by_cases d3 : (rd_T74 l i).f3.toList = (rd_T74 l' i).f3.toList
                · rw [if_pos d3] at h ⊢
                  obtain ⟨t, ht, h⟩ := Option.bind_eq_some_iff.1 h
                  rw [fields_f _ _ _ _ ht]
                  simp only [Option.bind_some]
                  cases t with
                  | false => simpa using h
                  | true =>
                    simp only [if_true] at h ⊢
                    obtain ⟨t2, ht2, h⟩ := Option.bind_eq_some_iff.1 h
                    rw [stmts_f _ _ 0 _ _ ht2]
                    simp only [Option.bind_some]
                    cases t2 with
                    | false => simpa using h
                    | true => simp only [if_true] at h ⊢; exact ih _ _ h
                · rw [if_neg d3] at h ⊢; simpa using h
              · rw [if_pos (by simpa using d2)] at h
                rw [if_neg (by simpa using d2)]; simpa using h
            · rw [if_neg d1] at h ⊢; simpa using h
          · rw [if_neg c3] at h; simp at h
        · rw [if_neg c2] at h; simp at h
      · rw [if_neg c1] at h ⊢; exact h
  unfold rM.f at h
  unfold api_Method.f
  by_cases c : (l.length : Int) = (l'.length : Int)
  · rw [if_pos c] at h ⊢; exact loop k 0 r h
  · rw [if_neg c] at h ⊢; exact h
theorem classes_f (l l' : List S43) (k : Nat) (r : Bool) (h : rC.f k l l' = some r) : parse_Same.f k l l' = some r := by
  have loop : ∀ (k : Nat) (i : Int) (r : Bool), rC.l0 k i l l' = some r → api_Class.l0 k l' l (l.length : Int) i = some r := by
    intro k
    induction k with
    | zero => intro i r h; simp [rC.l0] at h
    | succ k ih =>
      intro i r h
      simp only [rC.l0] at h
      simp only [api_Class.l0, parse_sameClass.f]
      by_cases c1 : i < (l.length : Int)
      · rw [if_pos c1] at h ⊢
        by_cases c2 : 0 ≤ i
        · rw [if_pos c2] at h ⊢
          by_cases c3 : i < (l'.length : Int)
          · rw [if_pos c3] at h
            rw [if_pos c1, if_pos c3]
            by_cases d1 : (rd_T43 l i).f0.toList = (rd_T43 l' i).f0.toList
            · rw [if_pos d1] at h ⊢
              by_cases d3 : (rd_T43 l i).f1.toList = (rd_T43 l' i).f1.toList
              · rw [if_pos d3] at h ⊢
                obtain ⟨t, ht, h⟩ := Option.bind_eq_some_iff.1 h
                rw [fields_f _ _ _ _ ht]
                simp only [Option.bind_some]
                cases t with
                | false => simpa using h
                | true =>
                  simp only [if_true] at h ⊢
                  obtain ⟨t2, ht2, h⟩ := Option.bind_eq_some_iff.1 h
                  rw [methods_f _ _ _ _ ht2]
                  simp only [Option.bind_some]
                  cases t2 with
                  | false => simpa using h
                  | true => simp only [if_true] at h ⊢; exact ih _ _ h
              · rw [if_neg d3] at h ⊢; simpa using h
            · rw [if_neg d1] at h ⊢; simpa using h
          · rw [if_neg c3] at h; simp at h
        · rw [if_neg c2] at h; simp at h
      · rw [if_neg c1] at h ⊢; exact h
  unfold rC.f at h
  unfold parse_Same.f api_Class.f
  by_cases c : (l.length : Int) = (l'.length : Int)
  · rw [if_pos c] at h ⊢
    rw [loop k 0 r h]; rfl
  · rw [if_neg c] at h ⊢
    rw [← h]; rfl
/-- The plain law. -/
theorem same_ev (l l' : List S43) (hb : l.length ≤ maxLen) (hg : ∀ x, x ∈ l → GoodC x) (hb' : l'.length ≤ maxLen) (hg' : ∀ x, x ∈ l' → GoodC x) : Ev (fun k => lw.f k l l') true := by
  have a := classes_ev l l' hb hg
  have b := classes_ev l' l hb' hg'
  have c := classes_ev l l hb hg
  have a' := ev_le (classes_f l l') a
  have b' := ev_le (classes_f l' l) b
  have c' := ev_le (classes_f l l) c
  rw [dec_true rfl] at c'
  have e : dec (l' = l) = dec (l = l') := by
    by_cases h : l = l'
    · rw [dec_true h, dec_true h.symm]
    · rw [dec_false h, dec_false (fun e => h e.symm)]
  unfold lw.f
  refine Ev.bind a' (Ev.bind a (ev_pos (by simp) ?_))
  refine Ev.bind b' (Ev.bind a' (ev_pos (by rw [e]; simp) ?_))
  exact Ev.bind c' (ev_pos rfl (Ev.now _))
end Go.Proofs.YtiffnkmbmenhfaaDoor.Cx
