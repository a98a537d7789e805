import Derived.Test.YtiffnkmbmenhfaaDoorP2
/-! Equal lists of expressions: the contract. -/
namespace Go.Proofs.YtiffnkmbmenhfaaDoor.Cx
open Go.RowKit Go.Proofs.YtiffnkmbmenhfaaDoorW.PrintWords Go.Proofs.YtiffnkmbmenhfaaDoorW.PrintLast Go.Proofs.YtiffnkmbmenhfaaDoorW.PrintMore
attribute [local go_sem] max2_int min2_int max_two min_two max_three min_three max_four min_four   -- for this text's walks alone
set_option linter.unusedVariables false
set_option linter.unusedSimpArgs false
attribute [local go_sem high] eqA70
/-- By rounds, the program's comparison of lists answers as the reference's. -/
theorem exprs_loop (l l' : List S49) : ∀ (k : Nat) (i : Int) (r : Bool), rE.l0 k l l' i = some r → api_Expr_90.l0 k l' l (l.length : Int) i = some r := by
  intro k
  induction k with
  | zero => intro i r h; simp [rE.l0] at h
  | succ k ih =>
    intro i r h
    simp only [rE.l0] at h
    simp only [api_Expr_90.l0, parse_sameExpr.f]
    by_cases c1 : i < (l.length : Int)
    · rw [if_pos c1] at h ⊢
      by_cases c2 : 0 ≤ i
      · rw [if_pos c2] at h ⊢
        by_cases c3 : i < (l'.length : Int)
        · rw [if_pos c3] at h
          rw [if_pos c1, if_pos c3]
          by_cases d1 : (rd_T49 l i).f0 = (rd_T49 l' i).f0
          · rw [if_pos d1] at h ⊢
            by_cases d2 : (rd_T49 l i).f1 = (rd_T49 l' i).f1
            · rw [if_pos d2] at h ⊢
              by_cases d3 : (rd_T49 l i).f2.toList = (rd_T49 l' i).f2.toList
              · rw [if_pos d3] at h ⊢
                by_cases d4 : (rd_T49 l i).f3.toList = (rd_T49 l' i).f3.toList
                · rw [if_pos d4] at h ⊢
                  obtain ⟨t, ht, h⟩ := Option.bind_eq_some_iff.1 h
                  rw [ht]
                  simp only [Option.bind_some]
                  cases t with
                  | false => simpa using h
                  | true => simp only [if_true] at h ⊢; exact ih _ _ h
                · rw [if_neg d4] at h ⊢; simpa using h
              · rw [if_neg d3] at h ⊢; simpa using h
            · rw [if_neg d2] at h ⊢; simpa using h
          · rw [if_neg d1] at h ⊢; simpa using h
        · rw [if_neg c3] at h; simp at h
      · rw [if_neg c2] at h; simp at h
    · rw [if_neg c1] at h ⊢; exact h
theorem exprs_f (l l' : List S49) (a : Int) (k : Nat) (r : Bool) (h : rE.f k l l' = some r) : api_Expr_90.f k l l' a = some r := by
  cases k with
  | zero => simp [rE.f] at h
  | succ k =>
    simp only [rE.f] at h
    unfold api_Expr_90.f
    by_cases c : (l.length : Int) = (l'.length : Int)
    · rw [if_pos c] at h ⊢
      exact api_Expr_90.mono_l k _ _ _ _ _ (exprs_loop l l' k 0 r h)
    · rw [if_neg c] at h ⊢; exact h
theorem C90_all : ∀ k, C90 k := by
  intro k
  induction k using Nat.strongRecOn with
  | _ k ih =>
    intro A0 c0 l0 A1 c1 l1 r w h1 h2 h3 h4 h
    exact api_Expr_90.calls_of k ih A0 c0 l0 A1 c1 l1 0 r w h1 h2 h3 h4 (exprs_f l0 l1 0 k r h)
theorem api_Expr_90.calls (k : Nat) (A0 : Option Addr) (c0 : Nat) (l0 : List (S49)) (A1 : Option Addr) (c1 : Nat) (l1 : List (S49)) (a2 : Int) (r : Bool) (w : World) (hr0 : Kd.C k49 w A0 l0.length l0) (hc0 : l0.length ≤ c0) (hr1 : Kd.C k49 w A1 l1.length l1) (hc1 : l1.length ≤ c1) (h : api_Expr_90.f k l0 l1 a2 = some r) :
    Calls Tryd.prog 90 #[.slice A0 l0.length c0, .slice A1 l1.length c1, .func (.func 91) #[] #[]] w fun e w' => e = .returned (.bool r) ∧ Below w.heap.size w w' :=
  api_Expr_90.calls_of k (fun j _ => C90_all j) A0 c0 l0 A1 c1 l1 a2 r w hr0 hc0 hr1 hc1 h
end Go.Proofs.YtiffnkmbmenhfaaDoor.Cx
