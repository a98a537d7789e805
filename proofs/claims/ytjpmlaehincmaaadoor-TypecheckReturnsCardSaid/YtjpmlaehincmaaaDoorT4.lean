import Derived.Test.YtjpmlaehincmaaaDoorT1
import Derived.Test.YtjpmlaehincmaaaDoorT2
import Derived.Test.YtjpmlaehincmaaaDoorAw
/-! TypecheckReturns: the walk of the law. -/
namespace Go.Proofs.YtjpmlaehincmaaaDoor.Cx
open Go.RowKit Go.Proofs.YtjpmlaehincmaaaDoorW.PrintWords Go.Proofs.YtjpmlaehincmaaaDoorW.PrintLast Go.Proofs.YtjpmlaehincmaaaDoorW.PrintMore
attribute [local go_sem] max2_int min2_int max_two min_two max_three min_three max_four min_four   -- for this text's walks alone
set_option linter.unusedVariables false
set_option linter.unusedSimpArgs false

/-! ### awake -/
def dataflowlaw11_awake.f : Option (Bool) := some true
theorem dataflowlaw11_awake.calls (r : Bool) (w : World) (hRdy : Aw.Ready w) (h : dataflowlaw11_awake.f = some r) :
    Calls Tryd.prog 7 #[] w fun e w' => e = .returned (.bool r) ∧ Below w.heap.size w w' := by
  obtain rfl := Option.some.inj h
  exact Aw.awake_calls w hRdy
/-! ### dataflowlaw11_TypecheckReturns: function 3 -/
def dataflowlaw11_TypecheckReturns.l0 : Nat → List (S44) → Int → Option (Bool)
  | 0, _, _ => none
  | k + 1, x0, x3 => if x3 < (x0.length : Int) then (if 0 ≤ x3 then (if x3 ≤ (x0.length : Int) then ((typecheck_Returns.f k (x0.take (x3 : Int).toNat)).bind fun t146 => (if t146 = true then ((typecheck_Returns.f k x0).bind fun t147 => (if t147 = true then (dataflowlaw11_TypecheckReturns.l0 k x0 (wrap64 (x3 + 1))) else (some false))) else (dataflowlaw11_TypecheckReturns.l0 k x0 (wrap64 (x3 + 1))))) else (none)) else (none)) else ((dataflowlaw11_awake.f).bind fun t141 => (some t141))
def dataflowlaw11_TypecheckReturns.f (k : Nat) (l0 : List (S44)) : Option (Bool) := (typecheck_Returns.f k l0).bind fun t139 => ((dataflowref11_Returns.f k l0).bind fun t140 => (if (t139 != t140) = true then (some false) else (dataflowlaw11_TypecheckReturns.l0 k l0 0)))
theorem dataflowlaw11_TypecheckReturns.mono_l : ∀ k, (∀ y0 y1, LeO (dataflowlaw11_TypecheckReturns.l0 k y0 y1) (dataflowlaw11_TypecheckReturns.l0 (k + 1) y0 y1))
  | 0 => fun _ _ r h => by simp [dataflowlaw11_TypecheckReturns.l0] at h
  | k + 1 => by
    have ih0 := dataflowlaw11_TypecheckReturns.mono_l k
    · intro y0 y1
      unfold dataflowlaw11_TypecheckReturns.l0
      repeat' first
      | (with_reducible exact ih0 _ _)
      | (with_reducible exact dataflowref11_Returns.mono _ _)
      | (with_reducible exact typecheck_Returns.mono _ _)
      | (with_reducible exact LeO.refl _)
      | (with_reducible exact LeO.none _)
      | (with_reducible refine LeO.ite ?_ ?_)
      | (with_reducible refine LeO.bind ?_ (fun _ => ?_))
      | exact ih0 _ _
      | exact dataflowref11_Returns.mono _ _
      | exact typecheck_Returns.mono _ _
      | exact LeO.none _
      | refine LeO.ite ?_ ?_
      | refine LeO.bind ?_ (fun _ => ?_)
theorem dataflowlaw11_TypecheckReturns.mono : ∀ a0 k, LeO (dataflowlaw11_TypecheckReturns.f k a0) (dataflowlaw11_TypecheckReturns.f (k + 1) a0) := by
  intro a0 k
  have ih0 := dataflowlaw11_TypecheckReturns.mono_l k
  unfold dataflowlaw11_TypecheckReturns.f
  repeat' first
      | (with_reducible exact ih0 _ _)
      | (with_reducible exact dataflowref11_Returns.mono _ _)
      | (with_reducible exact typecheck_Returns.mono _ _)
      | (with_reducible exact LeO.refl _)
      | (with_reducible exact LeO.none _)
      | (with_reducible refine LeO.ite ?_ ?_)
      | (with_reducible refine LeO.bind ?_ (fun _ => ?_))
      | exact ih0 _ _
      | exact dataflowref11_Returns.mono _ _
      | exact typecheck_Returns.mono _ _
      | exact LeO.none _
      | refine LeO.ite ?_ ?_
      | refine LeO.bind ?_ (fun _ => ?_)
set_option maxHeartbeats 8000000 in
set_option maxRecDepth 100000 in
theorem dataflowlaw11_TypecheckReturns.calls (k : Nat) (A0 : Option Addr) (c0 : Nat) (l0 : List (S44)) (r : Bool) (w : World) (hr0 : Kd.C k44 w A0 l0.length l0) (hc0 : l0.length ≤ c0) (hRdy : Aw.Ready w) (hrt : r = true) (h : dataflowlaw11_TypecheckReturns.f k l0 = some r) :
    Calls Tryd.prog 3 #[.slice A0 l0.length c0] w fun e w' => e = .returned (.bool r) ∧ Below w.heap.size w w' := by
  have HR0 := Aside0.mk hr0
  have HC0 := Aside0.mk hc0
  clear hr0 hc0
  have HB := Aside0.mk (Below.refl w.heap.size w)
  have HRdy := Aside0.mk hRdy
  clear hRdy
  have HRT := Aside0.mk hrt
  clear hrt
  have H : ((typecheck_Returns.f k l0).bind fun t139 => ((dataflowref11_Returns.f k l0).bind fun t140 => (if (t139 != t140) = true then (some false) else (dataflowlaw11_TypecheckReturns.l0 k l0 0)))) = some r := h
  clear h
  replace H := Option.bind_eq_some_iff.mp H
  obtain ⟨t139, A20, H⟩ := H
  replace H : ((dataflowref11_Returns.f k l0).bind fun t140 => (if (t139 != t140) = true then (some false) else (dataflowlaw11_TypecheckReturns.l0 k l0 0))) = some r := H
  have A2 := Aside0.mk A20
  clear A20
  replace H := Option.bind_eq_some_iff.mp H
  obtain ⟨t140, A30, H⟩ := H
  replace H : (if (t139 != t140) = true then (some false) else (dataflowlaw11_TypecheckReturns.l0 k l0 0)) = some r := H
  have A3 := Aside0.mk A30
  clear A30
  by_cases c4 : (t139 != t140) = true
  · rw [if_pos c4] at H
    exact absurd (Option.some.inj H) (by rw [HRT.out]; simp)
  · rw [if_neg c4] at H
    have c4b0 : (t139 != t140) = false := by simpa using c4
    (try (have c4b1 : decide (t139 = t140) = true := by simpa using c4))
    (try (have c4b2 : (t139 == t140) = true := by simpa using c4))
    clear c4
    have H' := Aside0.mk H
    clear H
    go_enter Tryd.func3, Tryd.ntmps3
    go_wp2_with (first | ((with_reducible refine gate_callee (f := 5) rfl ?_); refine goesL_ (some 5) rfl rfl Tryd.func5 (by kernel_rfl) rfl #[.slice A0 l0.length c0] rfl (by (try simp only [List.map_toArray, List.map_cons, List.map_nil]); first | done | rfl | (simp only [List.length_drop, List.length_take]; rfl)) ?_; (with_reducible refine (typecheck_Returns.calls k _ _ l0 t139 _ ?side1 ?side2 A2.out).mono ?_); (case side1 => repeat (first | exact HR0.out | (with_reducible refine Kd.C_alloc ?_ _) | (with_reducible refine Kd.C_drewN ?_ _) | (with_reducible refine Kd.C_drew ?_))); (case side2 => exact HC0.out); rintro e w7 ⟨rfl, hb⟩; refine ⟨_, rfl, ?_⟩; have n0_ := Aside0.mk (below_step (by repeat (first | (with_reducible first | exact HB.out | apply below_alloc | apply pw_below_drewN | apply below_drew1) | exact HB.out)) hb); clear HB; have HB := n0_; clear n0_; (try clear hb); (try clear hb2); (try clear hk); (try clear hi)) | ((with_reducible refine gate_callee (f := 6) rfl ?_); refine goesL_ (some 7) rfl rfl Tryd.func6 (by kernel_rfl) rfl #[.slice A0 l0.length c0] rfl (by (try simp only [List.map_toArray, List.map_cons, List.map_nil]); first | done | rfl | (simp only [List.length_drop, List.length_take]; rfl)) ?_; (with_reducible refine (dataflowref11_Returns.calls k _ _ l0 t140 _ ?side1 ?side2 A3.out).mono ?_); (case side1 => repeat (first | exact (Kd.C_below HR0.out HB.out) | (with_reducible refine Kd.C_alloc ?_ _) | (with_reducible refine Kd.C_drewN ?_ _) | (with_reducible refine Kd.C_drew ?_))); (case side2 => exact HC0.out); rintro e w8 ⟨rfl, hb⟩; refine ⟨_, rfl, ?_⟩; have n0_ := Aside0.mk (below_step (by repeat (first | (with_reducible first | exact HB.out | apply below_alloc | apply pw_below_drewN | apply below_drew1) | exact HB.out)) hb); clear HB; have HB := n0_; clear n0_; (try clear hb); (try clear hb2); (try clear hk); (try clear hi)))
    go_loopg [3] k (fun kq v3 w' => ∃ (x3_1 : Int), v3 = .int .i64 x3_1 ∧ Aside0 (dataflowlaw11_TypecheckReturns.l0 kq l0 x3_1 = some r) ∧ Aside0 (kq ≤ k) ∧ Aside0 (Below w.heap.size w w'))
    case atStart => exact ⟨(0), (by first | rfl | (simp; done) | (simp [*]; done)), H', ⟨Nat.le_refl _⟩, ⟨by repeat (first | (with_reducible first | exact HB.out | apply below_alloc | apply pw_below_drewN | apply below_drew1) | exact HB.out)⟩⟩
    case round =>
      clear H'
      try clear p2
      try clear c3
      try clear c4
      try clear c4b0
      try clear c4b1
      try clear c4b2
      try clear c5
      try clear c6
      obtain ⟨x3_1, rfl, HA, HK1, HB⟩ := hrel
      cases gk with
      | zero => exact absurd HA.out (by simp [dataflowlaw11_TypecheckReturns.l0])
      | succ k1 =>
        have H := HA.out
        clear HA
        simp only [dataflowlaw11_TypecheckReturns.l0] at H
        by_cases c9 : x3_1 < (l0.length : Int)
        · rw [if_pos c9] at H
          have c9b0 : decide (x3_1 < (l0.length : Int)) = true := decide_eq_true c9
          clear c9
          by_cases c10 : 0 ≤ x3_1
          · rw [if_pos c10] at H
            have c10b0 := eq_true c10
            have c10b1 : decide (0 ≤ x3_1) = true := decide_eq_true c10
            clear c10
            by_cases c11 : x3_1 ≤ (l0.length : Int)
            · rw [if_pos c11] at H
              have c11b0 := eq_true c11
              have c11b1 : decide (x3_1 ≤ (l0.length : Int)) = true := decide_eq_true c11
              clear c11
              obtain ⟨y142, hy142⟩ : ∃ y_ : List (S44), y_ = (l0.take (x3_1 : Int).toNat) := ⟨_, rfl⟩
              replace H : ((typecheck_Returns.f k1 y142).bind fun t146 => (if t146 = true then ((typecheck_Returns.f k1 l0).bind fun t147 => (if t147 = true then (dataflowlaw11_TypecheckReturns.l0 k1 l0 (wrap64 (x3_1 + 1))) else (some false))) else (dataflowlaw11_TypecheckReturns.l0 k1 l0 (wrap64 (x3_1 + 1))))) = some r := by first | (rw [hy142]; with_reducible exact H) | (have H2_ := (Option.bind_some _ _).symm.trans H; rw [hy142]; with_reducible exact H2_) | (have H2_ := (Option.bind_some _ _).symm.trans H; with_reducible exact H2_) | with_reducible exact H | (rw [hy142]; exact H) | exact H
              have Ny142 := Aside0.mk hy142
              clear hy142
              replace H := Option.bind_eq_some_iff.mp H
              obtain ⟨t146, A120, H⟩ := H
              replace H : (if t146 = true then ((typecheck_Returns.f k1 l0).bind fun t147 => (if t147 = true then (dataflowlaw11_TypecheckReturns.l0 k1 l0 (wrap64 (x3_1 + 1))) else (some false))) else (dataflowlaw11_TypecheckReturns.l0 k1 l0 (wrap64 (x3_1 + 1)))) = some r := H
              have A12 := Aside0.mk A120
              clear A120
              by_cases c13 : t146 = true
              · subst c13
                have H1 : ((typecheck_Returns.f k1 l0).bind fun t147 => (if t147 = true then (dataflowlaw11_TypecheckReturns.l0 k1 l0 (wrap64 (x3_1 + 1))) else (some false))) = some r := by rw [if_pos rfl] at H; exact H
                clear H
                have H := H1
                clear H1
                replace H := Option.bind_eq_some_iff.mp H
                obtain ⟨t147, A140, H⟩ := H
                replace H : (if t147 = true then (dataflowlaw11_TypecheckReturns.l0 k1 l0 (wrap64 (x3_1 + 1))) else (some false)) = some r := H
                have A14 := Aside0.mk A140
                clear A140
                by_cases c15 : t147 = true
                · subst c15
                  have H1 : (dataflowlaw11_TypecheckReturns.l0 k1 l0 (wrap64 (x3_1 + 1))) = some r := by rw [if_pos rfl] at H; exact H
                  clear H
                  have H := H1
                  clear H1
                  have H' := Aside0.mk H
                  clear H
                  have q16 : (x3_1 : Int) ≤ ((l0.length : Int) : Int) := of_decide_eq_true (by first | (with_reducible assumption) | assumption)
                  obtain ⟨i016, hi016, _, hsz16, _⟩ := info_parts info44
                  have hroom16 : l0.length ≤ c0 := HC0.out
                  have hC16 : Kd.C k44 _ A0 l0.length l0 := HR0.out
                  have hcut16 := cut_to (P := Tryd.prog) 22 44 .i64 Tryd.underlying22 hi016 A0 l0.length c0 x3_1 (of_decide_eq_true (by first | (with_reducible assumption) | assumption)) q16 hroom16
                  have hr16 := Kd.C_take (m := (x3_1 : Int).toNat) hC16 (by omega)
                  have hy16 : y142.length = (x3_1 : Int).toNat := (by rw [Ny142.out, List.length_take]; omega)
                  rw [← Ny142.out] at hr16
                  rw [← hy16] at hcut16
                  have HR145 := Aside0.mk hr16
                  have HC145 := Aside0.mk (show y142.length ≤ c0 from by omega)
                  clear hr16 hC16 hroom16 hi016 hsz16
                  have KY16 := Aside0.mk hy16
                  clear hy16
                  replace q16 := eq_true q16
                  go_wp2_with (first | ((with_reducible refine gate_callee (f := 5) rfl ?_); refine goesL_ (some 18) rfl rfl Tryd.func5 (by kernel_rfl) rfl #[.slice A0 y142.length c0] rfl (by (try simp only [List.map_toArray, List.map_cons, List.map_nil]); first | done | rfl | (simp only [List.length_drop, List.length_take]; rfl)) ?_; (with_reducible refine (typecheck_Returns.calls k1 _ _ y142 true _ ?side1 ?side2 A12.out).mono ?_); (case side1 => repeat (first | exact (Kd.C_below HR145.out HB.out) | (with_reducible refine Kd.C_alloc ?_ _) | (with_reducible refine Kd.C_drewN ?_ _) | (with_reducible refine Kd.C_drew ?_))); (case side2 => exact HC145.out); rintro e w17 ⟨rfl, hb⟩; refine ⟨_, rfl, ?_⟩; have n0_ := Aside0.mk (below_step (by repeat (first | (with_reducible first | exact HB.out | apply below_alloc | apply pw_below_drewN | apply below_drew1) | exact HB.out)) hb); clear HB; have HB := n0_; clear n0_; (try clear hb); (try clear hb2); (try clear hk); (try clear hi)) | (go_at_call 5; (with_reducible refine (typecheck_Returns.calls k1 _ _ l0 true _ ?side1 ?side2 A14.out).mono ?_); (case side1 => repeat (first | exact (Kd.C_below HR0.out HB.out) | (with_reducible refine Kd.C_alloc ?_ _) | (with_reducible refine Kd.C_drewN ?_ _) | (with_reducible refine Kd.C_drew ?_))); (case side2 => exact HC0.out); rintro e w18 ⟨rfl, hb⟩; have n0_ := Aside0.mk (below_step (by repeat (first | (with_reducible first | exact HB.out | apply below_alloc | apply pw_below_drewN | apply below_drew1) | exact HB.out)) hb); clear HB; have HB := n0_; clear n0_; (try clear hb); (try clear hb2); (try clear hk); (try clear hi)))
                  go_roundg k1
                  case measure => have := HK1.out; omega
                  case rel => exact ⟨(wrap64 (x3_1 + 1)), (by first | rfl | (simp; done) | (simp [*]; done)), H', ⟨by have := HK1.out; omega⟩, ⟨by repeat (first | (with_reducible first | exact HB.out | apply below_alloc | apply pw_below_drewN | apply below_drew1) | exact HB.out)⟩⟩
                · replace c15 := Bool.eq_false_iff.mpr c15
                  subst c15
                  have H1 : (some false) = some r := by rw [if_neg (show ¬ (false = true) by decide)] at H; exact H
                  clear H
                  have H := H1
                  clear H1
                  exact absurd (Option.some.inj H) (by rw [HRT.out]; simp)
              · replace c13 := Bool.eq_false_iff.mpr c13
                subst c13
                have H1 : (dataflowlaw11_TypecheckReturns.l0 k1 l0 (wrap64 (x3_1 + 1))) = some r := by rw [if_neg (show ¬ (false = true) by decide)] at H; exact H
                clear H
                have H := H1
                clear H1
                have H' := Aside0.mk H
                clear H
                have q22 : (x3_1 : Int) ≤ ((l0.length : Int) : Int) := of_decide_eq_true (by first | (with_reducible assumption) | assumption)
                obtain ⟨i022, hi022, _, hsz22, _⟩ := info_parts info44
                have hroom22 : l0.length ≤ c0 := HC0.out
                have hC22 : Kd.C k44 _ A0 l0.length l0 := HR0.out
                have hcut22 := cut_to (P := Tryd.prog) 22 44 .i64 Tryd.underlying22 hi022 A0 l0.length c0 x3_1 (of_decide_eq_true (by first | (with_reducible assumption) | assumption)) q22 hroom22
                have hr22 := Kd.C_take (m := (x3_1 : Int).toNat) hC22 (by omega)
                have hy22 : y142.length = (x3_1 : Int).toNat := (by rw [Ny142.out, List.length_take]; omega)
                rw [← Ny142.out] at hr22
                rw [← hy22] at hcut22
                have HR145 := Aside0.mk hr22
                have HC145 := Aside0.mk (show y142.length ≤ c0 from by omega)
                clear hr22 hC22 hroom22 hi022 hsz22
                have KY22 := Aside0.mk hy22
                clear hy22
                replace q22 := eq_true q22
                go_wp2_with (first | ((with_reducible refine gate_callee (f := 5) rfl ?_); refine goesL_ (some 18) rfl rfl Tryd.func5 (by kernel_rfl) rfl #[.slice A0 y142.length c0] rfl (by (try simp only [List.map_toArray, List.map_cons, List.map_nil]); first | done | rfl | (simp only [List.length_drop, List.length_take]; rfl)) ?_; (with_reducible refine (typecheck_Returns.calls k1 _ _ y142 false _ ?side1 ?side2 A12.out).mono ?_); (case side1 => repeat (first | exact (Kd.C_below HR145.out HB.out) | (with_reducible refine Kd.C_alloc ?_ _) | (with_reducible refine Kd.C_drewN ?_ _) | (with_reducible refine Kd.C_drew ?_))); (case side2 => exact HC145.out); rintro e w23 ⟨rfl, hb⟩; refine ⟨_, rfl, ?_⟩; have n0_ := Aside0.mk (below_step (by repeat (first | (with_reducible first | exact HB.out | apply below_alloc | apply pw_below_drewN | apply below_drew1) | exact HB.out)) hb); clear HB; have HB := n0_; clear n0_; (try clear hb); (try clear hb2); (try clear hk); (try clear hi)))
                go_roundg k1
                case measure => have := HK1.out; omega
                case rel => exact ⟨(wrap64 (x3_1 + 1)), (by first | rfl | (simp; done) | (simp [*]; done)), H', ⟨by have := HK1.out; omega⟩, ⟨by repeat (first | (with_reducible first | exact HB.out | apply below_alloc | apply pw_below_drewN | apply below_drew1) | exact HB.out)⟩⟩
            · rw [if_neg c11] at H
              exact absurd H (by simp)
          · rw [if_neg c10] at H
            exact absurd H (by simp)
        · rw [if_neg c9] at H
          have c9b0 : decide (x3_1 < (l0.length : Int)) = false := decide_eq_false c9
          clear c9
          replace H := Option.bind_eq_some_iff.mp H
          obtain ⟨t141, A240, H⟩ := H
          replace H : (some t141) = some r := H
          have A24 := Aside0.mk A240
          clear A240
          obtain rfl := Option.some.inj H
          go_wp2_with (first | ((with_reducible refine gate_callee (f := 7) rfl ?_); refine goesL_ (some 24) rfl rfl Tryd.func7 (by kernel_rfl) rfl #[] rfl (by (try simp only [List.map_toArray, List.map_cons, List.map_nil]); first | done | rfl | (simp only [List.length_drop, List.length_take]; rfl)) ?_; (with_reducible refine (dataflowlaw11_awake.calls t141 _ (HRdy.out.below HB.out) A24.out).mono ?_); rintro e w25 ⟨rfl, hb⟩; refine ⟨_, rfl, ?_⟩; have n0_ := Aside0.mk (below_step (by repeat (first | (with_reducible first | exact HB.out | apply below_alloc | apply pw_below_drewN | apply below_drew1) | exact HB.out)) hb); clear HB; have HB := n0_; clear n0_; (try clear hb); (try clear hb2); (try clear hk); (try clear hi)))
          go_ret
          exact ⟨by first | rfl | (simp [errW_none, errW_some] <;> rfl) | (simp [*, errW_none, errW_some] <;> rfl), by repeat (first | (with_reducible first | exact HB.out | apply below_alloc | apply pw_below_drewN | apply below_drew1) | exact HB.out)⟩


end Go.Proofs.YtjpmlaehincmaaaDoor.Cx
