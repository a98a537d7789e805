import Derived.Test.YtmocdgcjglmmjaaGreatDoorX1a
import Derived.Test.YtmocdgcjglmmjaaGreatDoorX1c
import Derived.Test.YtmocdgcjglmmjaaGreatDoorX3
import Derived.Test.YtmocdgcjglmmjaaGreatDoorAw
/-! ContextCompares: the walk of the law, and the plain law. -/
namespace Go.Proofs.YtmocdgcjglmmjaaGreatDoor.Cx
open Go.RowKit Go.Proofs.YtmocdgcjglmmjaaGreatDoorW.PrintWords Go.Proofs.YtmocdgcjglmmjaaGreatDoorW.PrintLast Go.Proofs.YtmocdgcjglmmjaaGreatDoorW.PrintMore
attribute [local go_sem] max2_int min2_int max_two min_two max_three min_three max_four min_four   -- for this text's walks alone
set_option linter.unusedVariables false
set_option linter.unusedSimpArgs false

/-! ### awake -/
def dataflowlaw22_awake.f (_ : Nat) : Option (Bool) := some true
theorem dataflowlaw22_awake.mono : ∀ k, LeO (dataflowlaw22_awake.f k) (dataflowlaw22_awake.f (k + 1)) := fun _ => LeO.refl _
theorem dataflowlaw22_awake.calls (k : Nat) (r : Bool) (w : World) (hRdy : Aw.Ready w) (h : dataflowlaw22_awake.f k = some r) :
    Calls Tryz.prog 10 #[] w fun e w' => e = .returned (.bool r) ∧ Below w.heap.size w w' := by
  obtain rfl := Option.some.inj h
  exact Aw.awake_calls w hRdy
/-! ### dataflowlaw22_ContextCompares: function 7 -/
def dataflowlaw22_ContextCompares.j0 : Nat → List Int → List Int → Bool → Option (Bool)
  | 0, _, _, _ => none
  | k + 1, x0, x1, x12 => if x12 = true then ((dataflowlaw22_awake.f k).bind fun t309 => (some t309)) else ((dataflowlaw22_awake.f k).bind fun t310 => (if t310 = true then ((context_Prefix.f k x0 x1).bind fun t311 => ((dataflowref22_Prefix.f k x0 x1).bind fun t312 => (if (t311 == t312) = true then ((context_Compare.f k x0 x1).bind fun t313 => ((dataflowref22_Compare.f k x0 x1).bind fun t314 => (some (t313 == t314)))) else (some false)))) else (some false)))
def dataflowlaw22_ContextCompares.f (k : Nat) (l0 : List Int) (l1 : List Int) : Option (Bool) := if (l0.length : Int) > 20 then (dataflowlaw22_ContextCompares.j0 k l0 l1 true) else (dataflowlaw22_ContextCompares.j0 k l0 l1 (decide ((l1.length : Int) > 20)))
theorem dataflowlaw22_ContextCompares.mono_l : ∀ k, (∀ y0 y1 y2, LeO (dataflowlaw22_ContextCompares.j0 k y0 y1 y2) (dataflowlaw22_ContextCompares.j0 (k + 1) y0 y1 y2))
  | 0 => fun _ _ _ r h => by simp [dataflowlaw22_ContextCompares.j0] at h
  | k + 1 => by
    have ih0 := dataflowlaw22_ContextCompares.mono_l k
    · intro y0 y1 y2
      unfold dataflowlaw22_ContextCompares.j0
      repeat' first
      | (with_reducible exact ih0 _ _ _)
      | (with_reducible exact context_Compare.mono _ _ _)
      | (with_reducible exact context_Prefix.mono _ _ _)
      | (with_reducible exact dataflowlaw22_awake.mono _)
      | (with_reducible exact dataflowref22_Compare.mono _ _ _)
      | (with_reducible exact dataflowref22_Prefix.mono _ _ _)
      | (with_reducible exact LeO.refl _)
      | (with_reducible exact LeO.none _)
      | (with_reducible refine LeO.ite ?_ ?_)
      | (with_reducible refine LeO.bind ?_ (fun _ => ?_))
      | exact ih0 _ _ _
      | exact context_Compare.mono _ _ _
      | exact context_Prefix.mono _ _ _
      | exact dataflowlaw22_awake.mono _
      | exact dataflowref22_Compare.mono _ _ _
      | exact dataflowref22_Prefix.mono _ _ _
      | exact LeO.none _
      | refine LeO.ite ?_ ?_
      | refine LeO.bind ?_ (fun _ => ?_)
theorem dataflowlaw22_ContextCompares.mono : ∀ a0 a1 k, LeO (dataflowlaw22_ContextCompares.f k a0 a1) (dataflowlaw22_ContextCompares.f (k + 1) a0 a1) := by
  intro a0 a1 k
  have ih0 := dataflowlaw22_ContextCompares.mono_l k
  unfold dataflowlaw22_ContextCompares.f
  repeat' first
      | (with_reducible exact ih0 _ _ _)
      | (with_reducible exact context_Compare.mono _ _ _)
      | (with_reducible exact context_Prefix.mono _ _ _)
      | (with_reducible exact dataflowlaw22_awake.mono _)
      | (with_reducible exact dataflowref22_Compare.mono _ _ _)
      | (with_reducible exact dataflowref22_Prefix.mono _ _ _)
      | (with_reducible exact LeO.refl _)
      | (with_reducible exact LeO.none _)
      | (with_reducible refine LeO.ite ?_ ?_)
      | (with_reducible refine LeO.bind ?_ (fun _ => ?_))
      | exact ih0 _ _ _
      | exact context_Compare.mono _ _ _
      | exact context_Prefix.mono _ _ _
      | exact dataflowlaw22_awake.mono _
      | exact dataflowref22_Compare.mono _ _ _
      | exact dataflowref22_Prefix.mono _ _ _
      | exact LeO.none _
      | refine LeO.ite ?_ ?_
      | refine LeO.bind ?_ (fun _ => ?_)
set_option maxHeartbeats 8000000 in
set_option maxRecDepth 100000 in
theorem dataflowlaw22_ContextCompares.calls (k : Nat) (A0 : Option Addr) (c0 : Nat) (l0 : List Int) (A1 : Option Addr) (c1 : Nat) (l1 : List Int) (r : Bool) (w : World) (hr0 : Kd.C (Kd.int .i64) w A0 l0.length l0) (hc0 : l0.length ≤ c0) (hr1 : Kd.C (Kd.int .i64) w A1 l1.length l1) (hc1 : l1.length ≤ c1) (hRdy : Aw.Ready w) (h : dataflowlaw22_ContextCompares.f k l0 l1 = some r) :
    Calls Tryz.prog 7 #[.slice A0 l0.length c0, .slice A1 l1.length c1] w fun e w' => e = .returned (.bool r) ∧ Below w.heap.size w w' := by
  have HR0 := Aside0.mk hr0
  have HC0 := Aside0.mk hc0
  clear hr0 hc0
  have HR1 := Aside0.mk hr1
  have HC1 := Aside0.mk hc1
  clear hr1 hc1
  have HB := Aside0.mk (Below.refl w.heap.size w)
  have HRdy := Aside0.mk hRdy
  clear hRdy
  have H : (if (l0.length : Int) > 20 then (dataflowlaw22_ContextCompares.j0 k l0 l1 true) else (dataflowlaw22_ContextCompares.j0 k l0 l1 (decide ((l1.length : Int) > 20)))) = some r := h
  clear h
  have HC3 := Aside0.mk H
  clear H
  go_enter Tryz.func7, Tryz.ntmps7
  go_upto_region 1 with (fail)
  go_cut [12] (fun v12 wc => ∃ (kq : Nat) (x12_2 : Bool), v12 = .bool x12_2 ∧ Aside0 (dataflowlaw22_ContextCompares.j0 kq l0 l1 x12_2 = some r) ∧ Aside0 (kq ≤ k) ∧ Aside0 (Below w.heap.size w wc))
  case first =>
    have H := HC3.out
    clear HC3
    by_cases c4 : (l0.length : Int) > 20
    · rw [if_pos c4] at H
      have c4b0 : decide (20 < (l0.length : Int)) = true := decide_eq_true c4
      have c4b1 : decide (20 < l0.length) = true := decide_eq_true (by omega)
      clear c4
      (first | rw [c4b0] | (simp only [i64_w, i32_w]; rw [c4b0]) | skip)
      have H' := Aside0.mk H
      clear H
      go_wp2
      go_meet
      case rel => exact ⟨_, (true), (by first | rfl | (simp; done) | (simp [*]; done)), H', ⟨by first | omega | exact Nat.le_refl _⟩, ⟨by repeat (first | (with_reducible first | exact HB.out | apply below_alloc | apply pw_below_drewN | apply below_drew1) | exact HB.out)⟩⟩
    · rw [if_neg c4] at H
      have c4b0 : decide (20 < (l0.length : Int)) = false := decide_eq_false c4
      have c4b1 : decide (20 < l0.length) = false := decide_eq_false (by omega)
      clear c4
      (first | rw [c4b0] | (simp only [i64_w, i32_w]; rw [c4b0]) | skip)
      have H' := Aside0.mk H
      clear H
      go_wp2
      go_meet
      case rel => exact ⟨_, (decide ((l1.length : Int) > 20)), (by first | rfl | (simp; done) | (simp [*]; done)), H', ⟨by first | omega | exact Nat.le_refl _⟩, ⟨by repeat (first | (with_reducible first | exact HB.out | apply below_alloc | apply pw_below_drewN | apply below_drew1) | exact HB.out)⟩⟩
  case rest =>
    clear HC3
    try clear c1
    try clear p2
    try clear c4
    try clear c4b0
    try clear c4b1
    obtain ⟨kq, x12_2, rfl, HA, HJ2, HB⟩ := hcut
    cases kq with
    | zero => exact absurd HA.out (by simp [dataflowlaw22_ContextCompares.j0])
    | succ kj2 =>
      have H := HA.out
      clear HA
      simp only [dataflowlaw22_ContextCompares.j0] at H
      by_cases c5 : x12_2 = true
      · subst c5
        have H1 : ((dataflowlaw22_awake.f kj2).bind fun t309 => (some t309)) = some r := by rw [if_pos rfl] at H; exact H
        clear H
        have H := H1
        clear H1
        replace H := Option.bind_eq_some_iff.mp H
        obtain ⟨t309, A60, H⟩ := H
        replace H : (some t309) = some r := H
        have A6 := Aside0.mk A60
        clear A60
        obtain rfl := Option.some.inj H
        go_wp2_with (first | ((with_reducible refine gate_callee (f := 10) rfl ?_); refine goesL_ (some 13) rfl rfl Tryz.func10 (by kernel_rfl) rfl #[] rfl (by (try simp only [List.map_toArray, List.map_cons, List.map_nil]); first | done | rfl | (simp only [List.length_drop, List.length_take]; rfl)) ?_; (with_reducible refine (dataflowlaw22_awake.calls kj2 t309 _ (HRdy.out.below HB.out) A6.out).mono ?_); rintro e w7 ⟨rfl, hb⟩; refine ⟨_, rfl, ?_⟩; have n0_ := Aside0.mk (below_step (by repeat (first | (with_reducible first | exact HB.out | apply below_alloc | apply pw_below_drewN | apply below_drew1) | exact HB.out)) hb); clear HB; have HB := n0_; clear n0_; (try clear hb); (try clear hb2); (try clear hk); (try clear hi)))
        go_ret
        exact ⟨by first | rfl | (simp [errW_none, errW_some] <;> rfl) | (simp [*, errW_none, errW_some] <;> rfl), by repeat (first | (with_reducible first | exact HB.out | apply below_alloc | apply pw_below_drewN | apply below_drew1) | exact HB.out)⟩
      · replace c5 := Bool.eq_false_iff.mpr c5
        subst c5
        have H1 : ((dataflowlaw22_awake.f kj2).bind fun t310 => (if t310 = true then ((context_Prefix.f kj2 l0 l1).bind fun t311 => ((dataflowref22_Prefix.f kj2 l0 l1).bind fun t312 => (if (t311 == t312) = true then ((context_Compare.f kj2 l0 l1).bind fun t313 => ((dataflowref22_Compare.f kj2 l0 l1).bind fun t314 => (some (t313 == t314)))) else (some false)))) else (some false))) = some r := by rw [if_neg (show ¬ (false = true) by decide)] at H; exact H
        clear H
        have H := H1
        clear H1
        replace H := Option.bind_eq_some_iff.mp H
        obtain ⟨t310, A80, H⟩ := H
        replace H : (if t310 = true then ((context_Prefix.f kj2 l0 l1).bind fun t311 => ((dataflowref22_Prefix.f kj2 l0 l1).bind fun t312 => (if (t311 == t312) = true then ((context_Compare.f kj2 l0 l1).bind fun t313 => ((dataflowref22_Compare.f kj2 l0 l1).bind fun t314 => (some (t313 == t314)))) else (some false)))) else (some false)) = some r := H
        have A8 := Aside0.mk A80
        clear A80
        by_cases c9 : t310 = true
        · subst c9
          have H1 : ((context_Prefix.f kj2 l0 l1).bind fun t311 => ((dataflowref22_Prefix.f kj2 l0 l1).bind fun t312 => (if (t311 == t312) = true then ((context_Compare.f kj2 l0 l1).bind fun t313 => ((dataflowref22_Compare.f kj2 l0 l1).bind fun t314 => (some (t313 == t314)))) else (some false)))) = some r := by rw [if_pos rfl] at H; exact H
          clear H
          have H := H1
          clear H1
          replace H := Option.bind_eq_some_iff.mp H
          obtain ⟨t311, A100, H⟩ := H
          replace H : ((dataflowref22_Prefix.f kj2 l0 l1).bind fun t312 => (if (t311 == t312) = true then ((context_Compare.f kj2 l0 l1).bind fun t313 => ((dataflowref22_Compare.f kj2 l0 l1).bind fun t314 => (some (t313 == t314)))) else (some false))) = some r := H
          have A10 := Aside0.mk A100
          clear A100
          replace H := Option.bind_eq_some_iff.mp H
          obtain ⟨t312, A110, H⟩ := H
          replace H : (if (t311 == t312) = true then ((context_Compare.f kj2 l0 l1).bind fun t313 => ((dataflowref22_Compare.f kj2 l0 l1).bind fun t314 => (some (t313 == t314)))) else (some false)) = some r := H
          have A11 := Aside0.mk A110
          clear A110
          by_cases c12 : (t311 == t312) = true
          · rw [if_pos c12] at H
            have c12b0 : (t311 == t312) = true := c12
            (try (have c12b1 : decide (t311 = t312) = true := by simpa using c12))
            (try (have c12b2 : (t311 == t312) = true := by simpa using c12))
            clear c12
            replace H := Option.bind_eq_some_iff.mp H
            obtain ⟨t313, A130, H⟩ := H
            replace H : ((dataflowref22_Compare.f kj2 l0 l1).bind fun t314 => (some (t313 == t314))) = some r := H
            have A13 := Aside0.mk A130
            clear A130
            replace H := Option.bind_eq_some_iff.mp H
            obtain ⟨t314, A140, H⟩ := H
            replace H : (some (t313 == t314)) = some r := H
            have A14 := Aside0.mk A140
            clear A140
            obtain rfl := Option.some.inj H
            go_wp2_with (first | ((with_reducible refine gate_callee (f := 10) rfl ?_); refine goesL_ (some 14) rfl rfl Tryz.func10 (by kernel_rfl) rfl #[] rfl (by (try simp only [List.map_toArray, List.map_cons, List.map_nil]); first | done | rfl | (simp only [List.length_drop, List.length_take]; rfl)) ?_; (with_reducible refine (dataflowlaw22_awake.calls kj2 true _ (HRdy.out.below HB.out) A8.out).mono ?_); rintro e w15 ⟨rfl, hb⟩; refine ⟨_, rfl, ?_⟩; have n0_ := Aside0.mk (below_step (by repeat (first | (with_reducible first | exact HB.out | apply below_alloc | apply pw_below_drewN | apply below_drew1) | exact HB.out)) hb); clear HB; have HB := n0_; clear n0_; (try clear hb); (try clear hb2); (try clear hk); (try clear hi)) | (go_at_call 12; (with_reducible refine (context_Prefix.calls kj2 _ _ l0 _ _ l1 t311 _ ?side1 ?side2 ?side3 ?side4 A10.out).mono ?_); (case side1 => repeat (first | exact (Kd.C_below HR0.out HB.out) | (with_reducible refine Kd.C_alloc ?_ _) | (with_reducible refine Kd.C_drewN ?_ _) | (with_reducible refine Kd.C_drew ?_))); (case side2 => exact HC0.out); (case side3 => repeat (first | exact (Kd.C_below HR1.out HB.out) | (with_reducible refine Kd.C_alloc ?_ _) | (with_reducible refine Kd.C_drewN ?_ _) | (with_reducible refine Kd.C_drew ?_))); (case side4 => exact HC1.out); rintro e wp ⟨rfl, hb⟩; have n0_ := Aside0.mk (below_step (by repeat (first | (with_reducible first | exact HB.out | apply below_alloc | apply pw_below_drewN | apply below_drew1) | exact HB.out)) hb); clear HB; have HB := n0_; clear n0_; (try clear hb)) | (go_at_call 22; (with_reducible refine (dataflowref22_Prefix.calls kj2 _ _ l0 _ _ l1 t312 _ ?side1 ?side2 ?side3 ?side4 A11.out).mono ?_); (case side1 => repeat (first | exact (Kd.C_below HR0.out (by repeat (first | (with_reducible first | exact HB.out | apply below_alloc | apply pw_below_drewN | apply below_drew1) | exact HB.out))) | (with_reducible refine Kd.C_alloc ?_ _) | (with_reducible refine Kd.C_drewN ?_ _) | (with_reducible refine Kd.C_drew ?_))); (case side2 => exact HC0.out); (case side3 => repeat (first | exact (Kd.C_below HR1.out (by repeat (first | (with_reducible first | exact HB.out | apply below_alloc | apply pw_below_drewN | apply below_drew1) | exact HB.out))) | (with_reducible refine Kd.C_alloc ?_ _) | (with_reducible refine Kd.C_drewN ?_ _) | (with_reducible refine Kd.C_drew ?_))); (case side4 => exact HC1.out); rintro e w' ⟨rfl, ⟨nd, rfl⟩⟩) | (go_at_call 15; (with_reducible refine (context_Compare.calls kj2 _ _ l0 _ _ l1 t313 _ ?side1 ?side2 ?side3 ?side4 A13.out).mono ?_); (case side1 => repeat (first | exact (Kd.C_below HR0.out (by repeat (first | (with_reducible first | exact HB.out | apply below_alloc | apply pw_below_drewN | apply below_drew1) | exact HB.out))) | (with_reducible refine Kd.C_alloc ?_ _) | (with_reducible refine Kd.C_drewN ?_ _) | (with_reducible refine Kd.C_drew ?_))); (case side2 => exact HC0.out); (case side3 => repeat (first | exact (Kd.C_below HR1.out (by repeat (first | (with_reducible first | exact HB.out | apply below_alloc | apply pw_below_drewN | apply below_drew1) | exact HB.out))) | (with_reducible refine Kd.C_alloc ?_ _) | (with_reducible refine Kd.C_drewN ?_ _) | (with_reducible refine Kd.C_drew ?_))); (case side4 => exact HC1.out); rintro e w' ⟨rfl, ⟨nd, rfl⟩⟩) | (go_at_call 23; (with_reducible refine (dataflowref22_Compare.calls kj2 _ _ l0 _ _ l1 t314 _ ?side1 ?side2 ?side3 ?side4 A14.out).mono ?_); (case side1 => repeat (first | exact (Kd.C_below HR0.out (by repeat (first | (with_reducible first | exact HB.out | apply below_alloc | apply pw_below_drewN | apply below_drew1) | exact HB.out))) | (with_reducible refine Kd.C_alloc ?_ _) | (with_reducible refine Kd.C_drewN ?_ _) | (with_reducible refine Kd.C_drew ?_))); (case side2 => exact HC0.out); (case side3 => repeat (first | exact (Kd.C_below HR1.out (by repeat (first | (with_reducible first | exact HB.out | apply below_alloc | apply pw_below_drewN | apply below_drew1) | exact HB.out))) | (with_reducible refine Kd.C_alloc ?_ _) | (with_reducible refine Kd.C_drewN ?_ _) | (with_reducible refine Kd.C_drew ?_))); (case side4 => exact HC1.out); rintro e w' ⟨rfl, ⟨nd, rfl⟩⟩))
            go_ret
            exact ⟨by first | rfl | (simp [errW_none, errW_some] <;> rfl) | (simp [*, errW_none, errW_some] <;> rfl), by repeat (first | (with_reducible first | exact HB.out | apply below_alloc | apply pw_below_drewN | apply below_drew1) | exact HB.out)⟩
          · rw [if_neg c12] at H
            have c12b0 : (t311 == t312) = false := by simpa using c12
            (try (have c12b1 : decide (t311 = t312) = false := by simpa using c12))
            (try (have c12b2 : (t311 == t312) = false := by simpa using c12))
            (try (have c12b3 : ¬ (t311 = t312) := by simpa using c12))
            clear c12
            obtain rfl := Option.some.inj H
            go_wp2_with (first | ((with_reducible refine gate_callee (f := 10) rfl ?_); refine goesL_ (some 14) rfl rfl Tryz.func10 (by kernel_rfl) rfl #[] rfl (by (try simp only [List.map_toArray, List.map_cons, List.map_nil]); first | done | rfl | (simp only [List.length_drop, List.length_take]; rfl)) ?_; (with_reducible refine (dataflowlaw22_awake.calls kj2 true _ (HRdy.out.below HB.out) A8.out).mono ?_); rintro e w16 ⟨rfl, hb⟩; refine ⟨_, rfl, ?_⟩; have n0_ := Aside0.mk (below_step (by repeat (first | (with_reducible first | exact HB.out | apply below_alloc | apply pw_below_drewN | apply below_drew1) | exact HB.out)) hb); clear HB; have HB := n0_; clear n0_; (try clear hb); (try clear hb2); (try clear hk); (try clear hi)) | (go_at_call 12; (with_reducible refine (context_Prefix.calls kj2 _ _ l0 _ _ l1 t311 _ ?side1 ?side2 ?side3 ?side4 A10.out).mono ?_); (case side1 => repeat (first | exact (Kd.C_below HR0.out HB.out) | (with_reducible refine Kd.C_alloc ?_ _) | (with_reducible refine Kd.C_drewN ?_ _) | (with_reducible refine Kd.C_drew ?_))); (case side2 => exact HC0.out); (case side3 => repeat (first | exact (Kd.C_below HR1.out HB.out) | (with_reducible refine Kd.C_alloc ?_ _) | (with_reducible refine Kd.C_drewN ?_ _) | (with_reducible refine Kd.C_drew ?_))); (case side4 => exact HC1.out); rintro e wp ⟨rfl, hb⟩; have n0_ := Aside0.mk (below_step (by repeat (first | (with_reducible first | exact HB.out | apply below_alloc | apply pw_below_drewN | apply below_drew1) | exact HB.out)) hb); clear HB; have HB := n0_; clear n0_; (try clear hb)) | (go_at_call 22; (with_reducible refine (dataflowref22_Prefix.calls kj2 _ _ l0 _ _ l1 t312 _ ?side1 ?side2 ?side3 ?side4 A11.out).mono ?_); (case side1 => repeat (first | exact (Kd.C_below HR0.out (by repeat (first | (with_reducible first | exact HB.out | apply below_alloc | apply pw_below_drewN | apply below_drew1) | exact HB.out))) | (with_reducible refine Kd.C_alloc ?_ _) | (with_reducible refine Kd.C_drewN ?_ _) | (with_reducible refine Kd.C_drew ?_))); (case side2 => exact HC0.out); (case side3 => repeat (first | exact (Kd.C_below HR1.out (by repeat (first | (with_reducible first | exact HB.out | apply below_alloc | apply pw_below_drewN | apply below_drew1) | exact HB.out))) | (with_reducible refine Kd.C_alloc ?_ _) | (with_reducible refine Kd.C_drewN ?_ _) | (with_reducible refine Kd.C_drew ?_))); (case side4 => exact HC1.out); rintro e w' ⟨rfl, ⟨nd, rfl⟩⟩))
            go_ret
            exact ⟨by first | rfl | (simp [errW_none, errW_some] <;> rfl) | (simp [*, errW_none, errW_some] <;> rfl), by repeat (first | (with_reducible first | exact HB.out | apply below_alloc | apply pw_below_drewN | apply below_drew1) | exact HB.out)⟩
        · replace c9 := Bool.eq_false_iff.mpr c9
          subst c9
          have H1 : (some false) = some r := by rw [if_neg (show ¬ (false = true) by decide)] at H; exact H
          clear H
          have H := H1
          clear H1
          obtain rfl := Option.some.inj H
          go_wp2_with (first | ((with_reducible refine gate_callee (f := 10) rfl ?_); refine goesL_ (some 14) rfl rfl Tryz.func10 (by kernel_rfl) rfl #[] rfl (by (try simp only [List.map_toArray, List.map_cons, List.map_nil]); first | done | rfl | (simp only [List.length_drop, List.length_take]; rfl)) ?_; (with_reducible refine (dataflowlaw22_awake.calls kj2 false _ (HRdy.out.below HB.out) A8.out).mono ?_); rintro e w17 ⟨rfl, hb⟩; refine ⟨_, rfl, ?_⟩; have n0_ := Aside0.mk (below_step (by repeat (first | (with_reducible first | exact HB.out | apply below_alloc | apply pw_below_drewN | apply below_drew1) | exact HB.out)) hb); clear HB; have HB := n0_; clear n0_; (try clear hb); (try clear hb2); (try clear hk); (try clear hi)))
          go_ret
          exact ⟨by first | rfl | (simp [errW_none, errW_some] <;> rfl) | (simp [*, errW_none, errW_some] <;> rfl), by repeat (first | (with_reducible first | exact HB.out | apply below_alloc | apply pw_below_drewN | apply below_drew1) | exact HB.out)⟩


def lexCmp : List Int → List Int → Int
  | [], [] => 0
  | [], _ :: _ => -1
  | _ :: _, [] => 1
  | a :: x, b :: y => if a < b then -1 else if a > b then 1 else lexCmp x y
theorem lexCmp_zero : ∀ (x y : List Int), lexCmp x y = 0 ↔ x = y := by
  intro x
  induction x with
  | nil => intro y; cases y <;> simp [lexCmp]
  | cons a x ih =>
    intro y
    cases y with
    | nil => simp [lexCmp]
    | cons b y =>
      simp only [lexCmp]
      by_cases h1 : a < b
      · rw [if_pos h1]
        constructor
        · intro h; omega
        · intro h; injection h with h2 h3; omega
      · rw [if_neg h1]
        by_cases h2 : a > b
        · rw [if_pos h2]
          constructor
          · intro h; omega
          · intro h; injection h with h3 h4; omega
        · rw [if_neg h2, ih y]
          have : a = b := by omega
          subst this
          simp
theorem drop_cons {l : List Int} {i : Nat} (h : i < l.length) : l.drop i = rd l (i : Int) :: l.drop (i + 1) := by
  rw [List.drop_eq_getElem_cons h]
  congr 1
  unfold rd
  simp [h]
theorem wrap_succ {i n : Nat} (h : i < n) (hn : n ≤ 1000) : wrap64 ((i : Int) + 1) = ((i + 1 : Nat) : Int) := by
  unfold wrap64
  omega
theorem ref_loop (x0 x1 : List Int) (h0 : x0.length ≤ 1000) : ∀ (d i k : Nat), x0.length - i = d → i ≤ x0.length → i ≤ x1.length → 2 * d + 2 ≤ k → dataflowref22_Compare.l0 k x0 x1 (i : Int) = some (lexCmp (x0.drop i) (x1.drop i)) := by
  intro d
  induction d with
  | zero =>
    intro i k hd hi hi1 hk
    have e : i = x0.length := by omega
    subst e
    match k, hk with
    | k + 2, _ =>
      simp only [dataflowref22_Compare.l0, dataflowref22_Compare.j1]
      rw [if_neg (by omega), if_neg (by simp), List.drop_of_length_le (Nat.le_refl _)]
      by_cases h1 : x0.length < x1.length
      · rw [if_pos (by omega), drop_cons h1]
        rfl
      · rw [if_neg (by omega), List.drop_of_length_le (by omega)]
        rw [if_neg (by omega)]
        rfl
  | succ d ih =>
    intro i k hd hi hi1 hk
    have hlt : i < x0.length := by omega
    match k, hk with
    | k + 2, hk =>
      simp only [dataflowref22_Compare.l0, dataflowref22_Compare.j1]
      rw [if_pos (by omega), drop_cons hlt]
      by_cases h1 : i < x1.length
      · rw [if_pos (by simpa using h1), if_pos (by omega), if_pos (by omega), if_pos (by omega), drop_cons h1]
        simp only [lexCmp]
        by_cases h2 : rd x0 (i : Int) < rd x1 (i : Int)
        · rw [if_pos h2, if_pos h2]
        · rw [if_neg h2, if_neg h2]
          by_cases h3 : rd x0 (i : Int) > rd x1 (i : Int)
          · rw [if_pos h3, if_pos h3]
          · rw [if_neg h3, if_neg h3, wrap_succ hlt h0]
            exact ih (i + 1) k (by omega) (by omega) (by omega) (by omega)
      · rw [if_neg (by simpa using h1), if_neg (by omega), if_pos (by omega), show x1.drop i = [] from List.drop_of_length_le (by omega)]
        rfl
theorem isNaN_f (a : Int) : cmp_isNaN_int.f a = some false := by simp [cmp_isNaN_int.f]
theorem cmp_f (a b : Int) : cmp_Compare_int.f a b = some (if a < b then -1 else if a > b then 1 else 0) := by
  unfold cmp_Compare_int.f
  rw [isNaN_f, isNaN_f]
  simp only [Option.bind_some, Bool.false_eq_true, if_false]
  split
  · rfl
  · split <;> rfl
theorem cmp_loop (x0 x1 : List Int) (h0 : x0.length ≤ 1000) : ∀ (d i k : Nat), x0.length - i = d → i ≤ x0.length → i ≤ x1.length → d + 1 ≤ k → slices_Compare_int_int.l0 k x0 x1 x0 (x0.length : Int) (i : Int) = some (lexCmp (x0.drop i) (x1.drop i)) := by
  intro d
  induction d with
  | zero =>
    intro i k hd hi hi1 hk
    have e : i = x0.length := by omega
    subst e
    match k, hk with
    | k + 1, _ =>
      simp only [slices_Compare_int_int.l0]
      rw [if_neg (by omega), List.drop_of_length_le (Nat.le_refl _)]
      by_cases h1 : x0.length < x1.length
      · rw [if_pos (by omega), drop_cons h1]
        rfl
      · rw [if_neg (by omega), List.drop_of_length_le (by omega)]
        rfl
  | succ d ih =>
    intro i k hd hi hi1 hk
    have hlt : i < x0.length := by omega
    match k, hk with
    | k + 1, hk =>
      simp only [slices_Compare_int_int.l0]
      rw [if_pos (by omega), if_pos (by omega), if_pos (by omega), drop_cons hlt]
      by_cases h1 : i < x1.length
      · rw [if_neg (by omega), if_pos (by omega), drop_cons h1, cmp_f]
        simp only [lexCmp, Option.bind_some]
        by_cases h2 : rd x0 (i : Int) < rd x1 (i : Int)
        · rw [if_pos h2, if_pos h2, if_neg (by omega)]
        · rw [if_neg h2, if_neg h2]
          by_cases h3 : rd x0 (i : Int) > rd x1 (i : Int)
          · rw [if_pos h3, if_pos h3, if_neg (by omega)]
          · rw [if_neg h3, if_neg h3, if_pos rfl, wrap_succ hlt h0]
            exact ih (i + 1) k (by omega) (by omega) (by omega) (by omega)
      · rw [if_pos (by omega), show x1.drop i = [] from List.drop_of_length_le (by omega)]
        rfl
theorem eq_loop (x0 x1 : List Int) (h0 : x0.length ≤ 1000) (hl : x0.length = x1.length) : ∀ (d i k : Nat), x0.length - i = d → i ≤ x0.length → d + 1 ≤ k → slices_Equal_int_int.l0 k x0 x1 (x0.length : Int) (i : Int) = some (decide (x0.drop i = x1.drop i)) := by
  intro d
  induction d with
  | zero =>
    intro i k hd hi hk
    have e : i = x0.length := by omega
    subst e
    match k, hk with
    | k + 1, _ =>
      simp only [slices_Equal_int_int.l0]
      rw [if_neg (by omega), List.drop_of_length_le (Nat.le_refl _), List.drop_of_length_le (by omega)]
      rfl
  | succ d ih =>
    intro i k hd hi hk
    have hlt : i < x0.length := by omega
    match k, hk with
    | k + 1, hk =>
      simp only [slices_Equal_int_int.l0]
      rw [if_pos (by omega), if_pos (by omega), if_pos (by omega), if_pos (by omega), drop_cons hlt, drop_cons (show i < x1.length by omega)]
      by_cases h2 : rd x0 (i : Int) = rd x1 (i : Int)
      · rw [if_pos h2, wrap_succ hlt h0, ih (i + 1) k (by omega) (by omega) (by omega), h2]
        simp
      · rw [if_neg h2]
        simp [h2]
theorem refCompare_f {x0 x1 : List Int} (h0 : x0.length ≤ 1000) {k : Nat} (hk : 2 * x0.length + 2 ≤ k) : dataflowref22_Compare.f k x0 x1 = some (lexCmp x0 x1) := by
  have := ref_loop x0 x1 h0 x0.length 0 k (by omega) (by omega) (by omega) hk
  simpa [dataflowref22_Compare.f] using this
theorem compare_f {x0 x1 : List Int} (h0 : x0.length ≤ 1000) {k : Nat} (hk : x0.length + 1 ≤ k) : context_Compare.f k x0 x1 = some (lexCmp x0 x1) := by
  have := cmp_loop x0 x1 h0 x0.length 0 k (by omega) (by omega) (by omega) hk
  unfold context_Compare.f slices_Compare_int_int.f
  have e : slices_Compare_int_int.l0 k x0 x1 x0 (x0.length : Int) 0 = some (lexCmp x0 x1) := by simpa using this
  rw [e]
  rfl
theorem equal_f {x0 x1 : List Int} (h0 : x0.length ≤ 1000) {k : Nat} (hk : x0.length + 1 ≤ k) : slices_Equal_int_int.f k x0 x1 = some (decide (x0 = x1)) := by
  unfold slices_Equal_int_int.f
  by_cases hl : x0.length = x1.length
  · rw [if_pos (by omega)]
    have := eq_loop x0 x1 h0 hl x0.length 0 k (by omega) (by omega) hk
    simpa using this
  · rw [if_neg (by omega)]
    have : x0 ≠ x1 := fun e => hl (by rw [e])
    simp [this]
theorem wrap_sub {a b : Nat} (h : a ≤ b) (hb : b ≤ 1000) : wrap64 ((b : Int) - (a : Int)) = ((b - a : Nat) : Int) := by
  unfold wrap64
  omega
theorem refPrefix_f {x0 x1 : List Int} (h0 : x0.length ≤ 1000) (h1 : x1.length ≤ 1000) {k : Nat} (hk : 2 * x0.length + 2 ≤ k) : dataflowref22_Prefix.f k x0 x1 = some (if x0.length > x1.length then false else decide (x0 = x1.drop (x1.length - x0.length))) := by
  unfold dataflowref22_Prefix.f
  by_cases h : x0.length > x1.length
  · rw [if_pos (by omega), if_pos h]
  · rw [if_neg (by omega), if_neg h, wrap_sub (by omega) h1, if_pos (by omega), if_pos (by omega), Int.toNat_natCast, refCompare_f h0 hk]
    simp only [Option.bind_some, Option.some.injEq]
    rw [Bool.eq_iff_iff]
    simp [lexCmp_zero]
theorem prefix_f {x0 x1 : List Int} (h0 : x0.length ≤ 20) (h1 : x1.length ≤ 20) {k : Nat} (hk : 100 ≤ k) : context_Prefix.f k x0 x1 = some (if x0.length > x1.length then false else decide (x0 = x1.drop (x1.length - x0.length))) := by
  unfold context_Prefix.f
  rw [if_pos (by omega)]
  by_cases h : x0.length > x1.length
  · rw [if_pos (by omega), if_pos h]
  · rw [if_neg (by omega), if_neg h]
    by_cases h2 : x0.length ≤ 2
    · rw [if_pos (by omega)]
    · rw [if_neg (by omega), wrap_sub (by omega) (by omega), if_pos (by omega), if_pos (by omega), Int.toNat_natCast, equal_f (by omega) (by omega)]
      rfl
/-- The plain law. -/
theorem compares_true (l0 l1 : List Int) : ∃ k, dataflowlaw22_ContextCompares.f k l0 l1 = some true := by
  refine ⟨201, ?_⟩
  unfold dataflowlaw22_ContextCompares.f
  have wake : dataflowlaw22_ContextCompares.j0 201 l0 l1 true = some true := by
    simp [dataflowlaw22_ContextCompares.j0, dataflowlaw22_awake.f]
  by_cases h0 : l0.length > 20
  · rw [if_pos (by omega)]; exact wake
  · rw [if_neg (by omega)]
    by_cases h1 : l1.length > 20
    · rw [decide_eq_true (by omega : (l1.length : Int) > 20)]; exact wake
    · rw [decide_eq_false (by omega : ¬ (l1.length : Int) > 20)]
      simp only [dataflowlaw22_ContextCompares.j0, dataflowlaw22_awake.f, Option.bind_some, Bool.false_eq_true, if_false, if_true]
      rw [prefix_f (by omega) (by omega) (by omega), refPrefix_f (by omega) (by omega) (by omega)]
      simp only [Option.bind_some]
      rw [if_pos (by simp), compare_f (by omega) (by omega), refCompare_f (by omega) (by omega)]
      simp
theorem dataflowlaw22_ContextCompares.walk (a0 : Option Addr) (len0 cap0 : Nat) (z0 : List Int) (a1 : Option Addr) (len1 cap1 : Nat) (z1 : List Int) (w : World) (hRdy : Aw.Ready w) (w0 : (a0 = none ∧ len0 = 0 ∧ cap0 = 0 ∧ z0 = []) ∨ ∃ x, a0 = some x ∧ len0 ≤ cap0 ∧ cap0 ≤ maxLen ∧ z0.length = cap0 ∧ (∀ i, i < z0.length → w.cell? (x.add i) = some (.int .i64 (z0.getD i 0))) ∧ ∀ n ∈ z0, (Lit.int .i64 n).wf = true) (w1 : (a1 = none ∧ len1 = 0 ∧ cap1 = 0 ∧ z1 = []) ∨ ∃ x, a1 = some x ∧ len1 ≤ cap1 ∧ cap1 ≤ maxLen ∧ z1.length = cap1 ∧ (∀ i, i < z1.length → w.cell? (x.add i) = some (.int .i64 (z1.getD i 0))) ∧ ∀ n ∈ z1, (Lit.int .i64 n).wf = true) :
    Calls Tryz.prog 7 #[.slice a0 len0 cap0, .slice a1 len1 cap1] w fun e w' => e = .returned (.bool true) ∧ Below w.heap.size w w' := by
  obtain ⟨l0, rfl, hr0, hm0, hw0, hc0⟩ := ReadsInt.ofRowC w0
  obtain ⟨l1, rfl, hr1, hm1, hw1, hc1⟩ := ReadsInt.ofRowC w1
  obtain ⟨k, h⟩ := compares_true l0 l1
  refine (dataflowlaw22_ContextCompares.calls k _ _ l0 _ _ l1 true w (Kd.C_of_reads (d := (0 : Int)) (h1 := fun _ => rfl) hr0) hc0 (Kd.C_of_reads (d := (0 : Int)) (h1 := fun _ => rfl) hr1) hc1 hRdy h).mono ?_
  rintro e w' ⟨rfl, hd⟩
  exact ⟨rfl, hd⟩

end Go.Proofs.YtmocdgcjglmmjaaGreatDoor.Cx
