import Derived.Test.YtiffnkmbmenhfaaDoorP5
/-! Equal lists of statements: the contract. -/
namespace Go.Proofs.YtiffnkmbmenhfaaDoor.Cx
open Go.RowKit Go.Proofs.YtiffnkmbmenhfaaDoorW.PrintWords Go.Proofs.YtiffnkmbmenhfaaDoorW.PrintLast Go.Proofs.YtiffnkmbmenhfaaDoorW.PrintMore
attribute [local go_sem] max2_int min2_int max_two min_two max_three min_three max_four min_four   -- for this text's walks alone
set_option linter.unusedVariables false
set_option linter.unusedSimpArgs false
attribute [local go_sem high] eqA70
/-- By rounds, the program's comparison of lists of statements answers as the reference's. -/
theorem stmts_loop (l l' : List S108) : ∀ (k : Nat) (i : Int) (r : Bool), rS.l0 k l l' i = some r → api_Stmt.l0 k l' l (l.length : Int) i = some r := by
  intro k
  induction k with
  | zero => intro i r h; simp [rS.l0] at h
  | succ k ih =>
    intro i r h
    simp only [rS.l0] at h
    simp only [api_Stmt.l0, parse_sameStmt.f]
    by_cases c1 : i < (l.length : Int)
    · rw [if_pos c1] at h ⊢
      by_cases c2 : 0 ≤ i
      · rw [if_pos c2] at h ⊢
        by_cases c3 : i < (l'.length : Int)
        · rw [if_pos c3] at h
          rw [if_pos c1, if_pos c3]
          by_cases d1 : (rd_T108 l i).f0 = (rd_T108 l' i).f0
          · rw [if_pos d1] at h ⊢
            by_cases d2 : (rd_T108 l i).f1.toList = (rd_T108 l' i).f1.toList
            · rw [if_pos d2] at h ⊢
              by_cases d3 : (rd_T108 l i).f2.toList = (rd_T108 l' i).f2.toList
              · rw [if_pos d3] at h ⊢
                obtain ⟨t, ht, h⟩ := Option.bind_eq_some_iff.1 h
                rw [exprs_f _ _ 0 _ _ ht]
                simp only [Option.bind_some]
                cases t with
                | false => simpa using h
                | true =>
                  simp only [if_true] at h ⊢
                  obtain ⟨t2, ht2, h⟩ := Option.bind_eq_some_iff.1 h
                  rw [ht2]
                  simp only [Option.bind_some]
                  cases t2 with
                  | false => simpa using h
                  | true =>
                    simp only [if_true] at h ⊢
                    obtain ⟨t3, ht3, h⟩ := Option.bind_eq_some_iff.1 h
                    rw [ht3]
                    simp only [Option.bind_some]
                    cases t3 with
                    | false => simpa using h
                    | true => simp only [if_true] at h ⊢; exact ih _ _ h
              · rw [if_neg d3] at h ⊢; simpa using h
            · rw [if_neg d2] at h ⊢; simpa using h
          · rw [if_neg d1] at h ⊢; simpa using h
        · rw [if_neg c3] at h; simp at h
      · rw [if_neg c2] at h; simp at h
    · rw [if_neg c1] at h ⊢; exact h
theorem stmts_f (l l' : List S108) (a : Int) (k : Nat) (r : Bool) (h : rS.f k l l' = some r) : api_Stmt.f k l l' a = some r := by
  cases k with
  | zero => simp [rS.f] at h
  | succ k =>
    simp only [rS.f] at h
    unfold api_Stmt.f
    by_cases c : (l.length : Int) = (l'.length : Int)
    · rw [if_pos c] at h ⊢
      exact api_Stmt.mono_l k _ _ _ _ _ (stmts_loop l l' k 0 r h)
    · rw [if_neg c] at h ⊢; exact h
theorem C63_all : ∀ k, C63 k := by
  intro k
  induction k using Nat.strongRecOn with
  | _ k ih =>
    intro A0 c0 l0 A1 c1 l1 r w h1 h2 h3 h4 h
    exact api_Stmt.calls_of k ih A0 c0 l0 A1 c1 l1 0 r w h1 h2 h3 h4 (stmts_f l0 l1 0 k r h)
theorem api_Stmt.calls (k : Nat) (A0 : Option Addr) (c0 : Nat) (l0 : List (S108)) (A1 : Option Addr) (c1 : Nat) (l1 : List (S108)) (a2 : Int) (r : Bool) (w : World) (hr0 : Kd.C k108 w A0 l0.length l0) (hc0 : l0.length ≤ c0) (hr1 : Kd.C k108 w A1 l1.length l1) (hc1 : l1.length ≤ c1) (h : api_Stmt.f k l0 l1 a2 = some r) :
    Calls Tryd.prog 63 #[.slice A0 l0.length c0, .slice A1 l1.length c1, .func (.func 64) #[] #[]] w fun e w' => e = .returned (.bool r) ∧ Below w.heap.size w w' :=
  api_Stmt.calls_of k (fun j _ => C63_all j) A0 c0 l0 A1 c1 l1 a2 r w hr0 hc0 hr1 hc1 h
end Go.Proofs.YtiffnkmbmenhfaaDoor.Cx
