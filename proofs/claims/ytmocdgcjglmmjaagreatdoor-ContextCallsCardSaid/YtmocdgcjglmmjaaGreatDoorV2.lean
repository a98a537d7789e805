import Derived.Test.YtmocdgcjglmmjaaGreatDoorV0
/-! The reference: Calls (turned from a print). -/
namespace Go.Proofs.YtmocdgcjglmmjaaGreatDoor.Cx
open Go.RowKit Go.Proofs.YtmocdgcjglmmjaaGreatDoorW.PrintWords Go.Proofs.YtmocdgcjglmmjaaGreatDoorW.PrintLast Go.Proofs.YtmocdgcjglmmjaaGreatDoorW.PrintMore
attribute [local go_sem] max2_int min2_int max_two min_two max_three min_three max_four min_four   -- for this text's walks alone
set_option linter.unusedVariables false
set_option linter.unusedSimpArgs false

/-! ### dataflowref22_Calls: function 21 -/
mutual
def dataflowref22_Calls.l0 : Nat → List (S48) → Int → List (S76) → List (S73) → Int → Option ((List (S48)))
  | 0, _, _, _, _, _ => none
  | k + 1, x3, x4, x314000, x314001, x314002 => if x4 < (x314001.length : Int) then (dataflowref22_Calls.l1 k x3 x4 0 x314000 x314001 x314002) else (some x3)
def dataflowref22_Calls.l1 : Nat → List (S48) → Int → Int → List (S76) → List (S73) → Int → Option ((List (S48)))
  | 0, _, _, _, _, _, _ => none
  | k + 1, x3, x4, x5, x314000, x314001, x314002 => if 0 ≤ x4 then (if x4 < (x314001.length : Int) then (if x5 < (((rd_T73 x314001 x4).f6).length : Int) then (if 0 ≤ x5 then (if ((rd_T81 ((rd_T73 x314001 x4).f6) x5).f0) = 9 then (if x3.length < 5864062014805 then ((some (x3 ++ [(⟨x4, x5, (rd_T81 ((rd_T73 x314001 x4).f6) x5).f2⟩ : S48)] : List (S48))).bind fun y318 => (if ((rd_T81 ((rd_T73 x314001 x4).f6) x5).f0) = 10 then (if y318.length < 5864062014805 then (dataflowref22_Calls.l1 k (y318 ++ [(⟨x4, x5, (-1)⟩ : S48)]) x4 (wrap64 (x5 + 1)) x314000 x314001 x314002) else (none)) else (dataflowref22_Calls.l1 k y318 x4 (wrap64 (x5 + 1)) x314000 x314001 x314002))) else (none)) else (if ((rd_T81 ((rd_T73 x314001 x4).f6) x5).f0) = 10 then (if x3.length < 5864062014805 then (dataflowref22_Calls.l1 k (x3 ++ [(⟨x4, x5, (-1)⟩ : S48)]) x4 (wrap64 (x5 + 1)) x314000 x314001 x314002) else (none)) else (dataflowref22_Calls.l1 k x3 x4 (wrap64 (x5 + 1)) x314000 x314001 x314002))) else (none)) else (dataflowref22_Calls.l0 k x3 (wrap64 (x4 + 1)) x314000 x314001 x314002)) else (none)) else (none)
end
def dataflowref22_Calls.f (k : Nat) (l0_0 : List (S76)) (l0_1 : List (S73)) (a0_2 : Int) : Option ((List (S48))) := dataflowref22_Calls.l0 k ([] : List (S48)) 0 l0_0 l0_1 a0_2
theorem dataflowref22_Calls.mono_l : ∀ k, (∀ y0 y1 y2 y3 y4, LeO (dataflowref22_Calls.l0 k y0 y1 y2 y3 y4) (dataflowref22_Calls.l0 (k + 1) y0 y1 y2 y3 y4)) ∧ (∀ y0 y1 y2 y3 y4 y5, LeO (dataflowref22_Calls.l1 k y0 y1 y2 y3 y4 y5) (dataflowref22_Calls.l1 (k + 1) y0 y1 y2 y3 y4 y5))
  | 0 => ⟨fun _ _ _ _ _ r h => by simp [dataflowref22_Calls.l0] at h, fun _ _ _ _ _ _ r h => by simp [dataflowref22_Calls.l1] at h⟩
  | k + 1 => by
    obtain ⟨ih0, ih1⟩ := dataflowref22_Calls.mono_l k
    refine ⟨?_, ?_⟩
    · intro y0 y1 y2 y3 y4
      unfold dataflowref22_Calls.l0
      repeat' first
      | (with_reducible exact ih0 _ _ _ _ _)
      | (with_reducible exact ih1 _ _ _ _ _ _)
      | (with_reducible exact LeO.refl _)
      | (with_reducible exact LeO.none _)
      | (with_reducible refine LeO.ite ?_ ?_)
      | (with_reducible refine LeO.bind ?_ (fun _ => ?_))
      | exact ih0 _ _ _ _ _
      | exact ih1 _ _ _ _ _ _
      | exact LeO.none _
      | refine LeO.ite ?_ ?_
      | refine LeO.bind ?_ (fun _ => ?_)
    · intro y0 y1 y2 y3 y4 y5
      unfold dataflowref22_Calls.l1
      repeat' first
      | (with_reducible exact ih0 _ _ _ _ _)
      | (with_reducible exact ih1 _ _ _ _ _ _)
      | (with_reducible exact LeO.refl _)
      | (with_reducible exact LeO.none _)
      | (with_reducible refine LeO.ite ?_ ?_)
      | (with_reducible refine LeO.bind ?_ (fun _ => ?_))
      | exact ih0 _ _ _ _ _
      | exact ih1 _ _ _ _ _ _
      | exact LeO.none _
      | refine LeO.ite ?_ ?_
      | refine LeO.bind ?_ (fun _ => ?_)
theorem dataflowref22_Calls.mono : ∀ a0 a1 a2 k, LeO (dataflowref22_Calls.f k a0 a1 a2) (dataflowref22_Calls.f (k + 1) a0 a1 a2) := by
  intro a0 a1 a2 k
  obtain ⟨ih0, ih1⟩ := dataflowref22_Calls.mono_l k
  unfold dataflowref22_Calls.f
  repeat' first
      | (with_reducible exact ih0 _ _ _ _ _)
      | (with_reducible exact ih1 _ _ _ _ _ _)
      | (with_reducible exact LeO.refl _)
      | (with_reducible exact LeO.none _)
      | (with_reducible refine LeO.ite ?_ ?_)
      | (with_reducible refine LeO.bind ?_ (fun _ => ?_))
      | exact ih0 _ _ _ _ _
      | exact ih1 _ _ _ _ _ _
      | exact LeO.none _
      | refine LeO.ite ?_ ?_
      | refine LeO.bind ?_ (fun _ => ?_)
set_option maxHeartbeats 8000000 in
set_option maxRecDepth 100000 in
theorem dataflowref22_Calls.calls (k : Nat) (A0_0 : Option Addr) (c0_0 : Nat) (l0_0 : List (S76)) (A0_1 : Option Addr) (c0_1 : Nat) (l0_1 : List (S73)) (a0_2 : Int) (r : List (S48)) (w : World) (hr0_0 : Kd.C k76 w A0_0 l0_0.length l0_0) (hc0_0 : l0_0.length ≤ c0_0) (hr0_1 : Kd.C k73 w A0_1 l0_1.length l0_1) (hc0_1 : l0_1.length ≤ c0_1) (h : dataflowref22_Calls.f k l0_0 l0_1 a0_2 = some r) :
    Calls Tryz.prog 21 #[.agg #[.slice A0_0 l0_0.length c0_0, .slice A0_1 l0_1.length c0_1, .int .i64 a0_2]] w fun e w' => ∃ v0_ : Value, e = .returned (v0_) ∧ Kd.R k48 48 w' w.heap.size (fun _ => True) v0_ r ∧ Below w.heap.size w w' := by
  have hu27 := Tryz.underlying27
  have hu81 := Tryz.underlying81
  have hu48 := Tryz.underlying48
  have HR0_0 := Aside0.mk hr0_0
  have HC0_0 := Aside0.mk hc0_0
  clear hr0_0 hc0_0
  have HR0_1 := Aside0.mk hr0_1
  have HC0_1 := Aside0.mk hc0_1
  clear hr0_1 hc0_1
  have HB := Aside0.mk (Below.refl w.heap.size w)
  have H : (dataflowref22_Calls.l0 k ([] : List (S48)) 0 l0_0 l0_1 a0_2) = some r := h
  clear h
  have H' := Aside0.mk H
  clear H
  go_enter Tryz.func21, Tryz.ntmps21
  go_wp2_with (first | ((with_reducible refine gate_dst (N := 1) rfl ?_); refine box_event ?hg (N := 1) ?hd (cs := #[.slice A0_0 l0_0.length c0_0, .slice A0_1 l0_1.length c0_1, .int .i64 a0_2]) (t := 27) ?hr ?_; (case hd => rfl); (case hg => rfl); (case hr => first | (go_simp; done) | (go_simp; rfl)); intro gb313 hg w2 hbox hb; have n0_ := Aside0.mk (below_step (by repeat (first | (with_reducible first | exact HB.out | apply below_alloc | apply pw_below_drewN | apply below_drew1) | exact HB.out)) hb); have n1_ := Aside0.mk (hbox); have n2_ := Aside0.mk ((by rw [hg]; exact (below_size (by repeat (first | (with_reducible first | exact HB.out | apply below_alloc | apply pw_below_drewN | apply below_drew1) | exact HB.out))) : w.heap.size ≤ gb313)); have n3_ := Aside0.mk ((by rw [hg]; exact (below_size (by repeat (first | (with_reducible first | exact HB.out | apply below_alloc | apply pw_below_drewN | apply below_drew1) | exact HB.out))) : w.heap.size ≤ gb313)); clear HB; have HB := n0_; have BK313 := n1_; have GW313 := n2_; have GE313 := n3_; clear n0_ n1_ n2_ n3_; clear hb hbox hg))
  go_loopg [3, 4] k (fun kq v3 v4 w' => ∃ (x3_1 : List (S48)) (x4_1 : Int), v4 = .int .i64 x4_1 ∧ Aside0 (dataflowref22_Calls.l0 kq x3_1 x4_1 l0_0 l0_1 a0_2 = some r) ∧ Aside0 (kq ≤ k) ∧ Aside0 (Kd.R k48 48 w' w.heap.size (fun _ => True) v3 x3_1) ∧ Aside0 (w'.heap[gb313]? = some (.cells #[(.slice A0_0 l0_0.length c0_0), (.slice A0_1 l0_1.length c0_1), .int .i64 a0_2] 27 (0, 0))) ∧ Aside0 (Below w.heap.size w w'))
  case atStart => exact ⟨(([] : List (S48))), (0), (by first | rfl | (simp; done) | (simp [*]; done)), H', ⟨Nat.le_refl _⟩, ⟨by first | exact Kd.R_nil _ _ _ _ _ | exact Kd.N_nil _ _ _ _ _ | exact Kd.V_nil _ _ _ _ _ | exact Kd.Q_nil _ _ _ _ _ | exact Kd.S_nil _ _ _ _ _⟩, ⟨by (with_reducible repeat (first | refine blk_drewN ?_ _ | refine blk_drew ?_ | refine blk_alloc ?_ _)); exact BK313.out⟩, ⟨by repeat (first | (with_reducible first | exact HB.out | apply below_alloc | apply pw_below_drewN | apply below_drew1 | refine below_set ?_ GE313.out) | exact HB.out)⟩⟩
  case round =>
    clear H'
    try clear c2
    try clear p2
    obtain ⟨x3_1, x4_1, rfl, HA, HK1, HO_3, BK313, HB⟩ := hrel
    cases gk with
    | zero => exact absurd HA.out (by simp [dataflowref22_Calls.l0])
    | succ k1 =>
      have H := HA.out
      clear HA
      simp only [dataflowref22_Calls.l0] at H
      by_cases c3 : x4_1 < (l0_1.length : Int)
      · rw [if_pos c3] at H
        have c3b0 : decide (x4_1 < (l0_1.length : Int)) = true := decide_eq_true c3
        clear c3
        have H' := Aside0.mk H
        clear H
        have hcz4_0 : wr.cell? ⟨gb313, 0, none⟩ = some (.slice A0_0 l0_0.length c0_0) := (blk_cell BK313.out 0).trans rfl
        have hcz4_1 : wr.cell? ⟨gb313, 1, none⟩ = some (.slice A0_1 l0_1.length c0_1) := (blk_cell BK313.out 1).trans rfl
        have hcz4_2 : wr.cell? ⟨gb313, 2, none⟩ = some (.int .i64 a0_2) := (blk_cell BK313.out 2).trans rfl
        have hfz4_0 := blk_frozen BK313.out 0
        have hfz4_1 := blk_frozen BK313.out 1
        have hfz4_2 := blk_frozen BK313.out 2
        go_wp2
        go_loopg [3, 5] k1 (fun kq v3 v5 w' => ∃ (x3_2 : List (S48)) (x5_2 : Int), v5 = .int .i64 x5_2 ∧ Aside0 (dataflowref22_Calls.l1 kq x3_2 x4_1 x5_2 l0_0 l0_1 a0_2 = some r) ∧ Aside0 (kq ≤ k1) ∧ Aside0 (Kd.R k48 48 w' w.heap.size (fun _ => True) v3 x3_2) ∧ Aside0 (w'.heap[gb313]? = some (.cells #[(.slice A0_0 l0_0.length c0_0), (.slice A0_1 l0_1.length c0_1), .int .i64 a0_2] 27 (0, 0))) ∧ Aside0 (Below w.heap.size w w'))
        case atStart => exact ⟨(x3_1), (0), (by first | rfl | (simp; done) | (simp [*]; done)), H', ⟨Nat.le_refl _⟩, ⟨by (with_reducible repeat (first | apply Kd.R_alloc | apply Kd.R_drewN | apply Kd.R_drew)); exact HO_3.out⟩, ⟨by (with_reducible repeat (first | refine blk_drewN ?_ _ | refine blk_drew ?_ | refine blk_alloc ?_ _)); exact BK313.out⟩, ⟨by repeat (first | (with_reducible first | exact HB.out | apply below_alloc | apply pw_below_drewN | apply below_drew1 | refine below_set ?_ GE313.out) | exact HB.out)⟩⟩
        case round =>
          clear H'
          try clear c2
          try clear p2
          try clear c3
          try clear c3b0
          try clear hcz4_0
          try clear hcz4_1
          try clear hcz4_2
          try clear hfz4_0
          try clear hfz4_1
          try clear hfz4_2
          try clear p2
          obtain ⟨x3_2, x5_2, rfl, HA, HK2, HO_3, BK313, HB⟩ := hrel
          cases gk with
          | zero => exact absurd HA.out (by simp [dataflowref22_Calls.l1])
          | succ k2 =>
            have H := HA.out
            clear HA
            simp only [dataflowref22_Calls.l1] at H
            by_cases c5 : 0 ≤ x4_1
            · rw [if_pos c5] at H
              have c5b0 : decide (0 ≤ x4_1) = true := decide_eq_true c5
              clear c5
              by_cases c6 : x4_1 < (l0_1.length : Int)
              · rw [if_pos c6] at H
                have c6b0 : decide (x4_1 < (l0_1.length : Int)) = true := decide_eq_true c6
                clear c6
                by_cases c7 : x5_2 < (((rd_T73 l0_1 x4_1).f6).length : Int)
                · rw [if_pos c7] at H
                  have c7b0 : decide (x5_2 < (((rd_T73 l0_1 x4_1).f6).length : Int)) = true := decide_eq_true c7
                  clear c7
                  by_cases c8 : 0 ≤ x5_2
                  · rw [if_pos c8] at H
                    have c8b0 : decide (0 ≤ x5_2) = true := decide_eq_true c8
                    clear c8
                    by_cases c9 : ((rd_T81 ((rd_T73 l0_1 x4_1).f6) x5_2).f0) = 9
                    · rw [if_pos c9] at H
                      have c9b0 : (((rd_T81 ((rd_T73 l0_1 x4_1).f6) x5_2).f0) == 9) = true := beq_iff_eq.mpr c9
                      have c9b1 : (((rd_T81 ((rd_T73 l0_1 x4_1).f6) x5_2).f0) != 9) = false := bne_eq_false_iff_eq.mpr c9
                      clear c9
                      by_cases c10 : x3_2.length < 5864062014805
                      · rw [if_pos c10] at H
                        have LMc10 := Aside0.mk c10
                        clear c10
                        obtain ⟨y318, hy318⟩ : ∃ y_ : List (S48), y_ = (x3_2 ++ [(⟨x4_1, x5_2, (rd_T81 ((rd_T73 l0_1 x4_1).f6) x5_2).f2⟩ : S48)]) := ⟨_, rfl⟩
                        replace H : (if ((rd_T81 ((rd_T73 l0_1 x4_1).f6) x5_2).f0) = 10 then (if y318.length < 5864062014805 then (dataflowref22_Calls.l1 k2 (y318 ++ [(⟨x4_1, x5_2, (-1)⟩ : S48)]) x4_1 (wrap64 (x5_2 + 1)) l0_0 l0_1 a0_2) else (none)) else (dataflowref22_Calls.l1 k2 y318 x4_1 (wrap64 (x5_2 + 1)) l0_0 l0_1 a0_2)) = some r := by first | (rw [hy318]; with_reducible exact H) | (have H2_ := (Option.bind_some _ _).symm.trans H; rw [hy318]; with_reducible exact H2_) | (have H2_ := (Option.bind_some _ _).symm.trans H; with_reducible exact H2_) | with_reducible exact H | (rw [hy318]; exact H) | exact H
                        have Ny318 := Aside0.mk hy318
                        clear hy318
                        by_cases c11 : ((rd_T81 ((rd_T73 l0_1 x4_1).f6) x5_2).f0) = 10
                        · rw [if_pos c11] at H
                          have c11b0 : (((rd_T81 ((rd_T73 l0_1 x4_1).f6) x5_2).f0) == 10) = true := beq_iff_eq.mpr c11
                          have c11b1 : (((rd_T81 ((rd_T73 l0_1 x4_1).f6) x5_2).f0) != 10) = false := bne_eq_false_iff_eq.mpr c11
                          clear c11
                          by_cases c12 : y318.length < 5864062014805
                          · rw [if_pos c12] at H
                            have LMc12 := Aside0.mk c12
                            clear c12
                            obtain ⟨y321, hy321⟩ : ∃ y_ : List (S48), y_ = (y318 ++ [(⟨x4_1, x5_2, (-1)⟩ : S48)]) := ⟨_, rfl⟩
                            replace H : (dataflowref22_Calls.l1 k2 y321 x4_1 (wrap64 (x5_2 + 1)) l0_0 l0_1 a0_2) = some r := by first | (rw [hy321]; with_reducible exact H) | (have H2_ := (Option.bind_some _ _).symm.trans H; rw [hy321]; with_reducible exact H2_) | (have H2_ := (Option.bind_some _ _).symm.trans H; with_reducible exact H2_) | with_reducible exact H | (rw [hy321]; exact H) | exact H
                            have Ny321 := Aside0.mk hy321
                            clear hy321
                            have H' := Aside0.mk H
                            clear H
                            have hcz13_0 : wr.cell? ⟨gb313, 0, none⟩ = some (.slice A0_0 l0_0.length c0_0) := (blk_cell BK313.out 0).trans rfl
                            have hcz13_1 : wr.cell? ⟨gb313, 1, none⟩ = some (.slice A0_1 l0_1.length c0_1) := (blk_cell BK313.out 1).trans rfl
                            have hcz13_2 : wr.cell? ⟨gb313, 2, none⟩ = some (.int .i64 a0_2) := (blk_cell BK313.out 2).trans rfl
                            have hfz13_0 := blk_frozen BK313.out 0
                            have hfz13_1 := blk_frozen BK313.out 1
                            have hfz13_2 := blk_frozen BK313.out 2
                            have p314 : 0 ≤ (x4_1 : Int) := of_decide_eq_true (by first | (with_reducible assumption) | assumption)
                            have q314 : x4_1 < (l0_1.length : Int) := of_decide_eq_true (by first | (with_reducible assumption) | assumption)
                            obtain ⟨ad314, A314_4, c314_4, A314_6, c314_6, e314, hx314_0, hx314_1, hx314_2, hx314_3, hx314_4, hx314_5, hx314_6, hl314_4, hi314_4, hl314_6, hi314_6⟩ := at_T73 HR0_1.out x4_1 p314 q314
                            cases e314
                            replace hx314_0 := (HB.out.cell (World.block_lt_of_cell? w _ hx314_0)).trans hx314_0
                            replace hx314_1 := (HB.out.cell (World.block_lt_of_cell? w _ hx314_1)).trans hx314_1
                            replace hx314_2 := (HB.out.cell (World.block_lt_of_cell? w _ hx314_2)).trans hx314_2
                            replace hx314_3 := (HB.out.cell (World.block_lt_of_cell? w _ hx314_3)).trans hx314_3
                            replace hx314_4 := (HB.out.cell (World.block_lt_of_cell? w _ hx314_4)).trans hx314_4
                            replace hx314_5 := (HB.out.cell (World.block_lt_of_cell? w _ hx314_5)).trans hx314_5
                            replace hx314_6 := (HB.out.cell (World.block_lt_of_cell? w _ hx314_6)).trans hx314_6
                            have HR314_4 := Aside0.mk hi314_4
                            have HC314_4 := Aside0.mk hl314_4
                            clear hi314_4 hl314_4
                            have HR314_6 := Aside0.mk hi314_6
                            have HC314_6 := Aside0.mk hl314_6
                            clear hi314_6 hl314_6
                            replace p314 := eq_true p314
                            replace q314 := eq_true q314
                            have p315 : 0 ≤ (x4_1 : Int) := of_decide_eq_true (by first | (with_reducible assumption) | assumption)
                            have q315 : x4_1 < (l0_1.length : Int) := of_decide_eq_true (by first | (with_reducible assumption) | assumption)
                            obtain ⟨ad315, A315_4, c315_4, A315_6, c315_6, e315, hx315_0, hx315_1, hx315_2, hx315_3, hx315_4, hx315_5, hx315_6, hl315_4, hi315_4, hl315_6, hi315_6⟩ := at_T73 HR0_1.out x4_1 p315 q315
                            obtain rfl : ad314 = ad315 := (by injection e315)
                            replace hx315_0 := (HB.out.cell (World.block_lt_of_cell? w _ hx315_0)).trans hx315_0
                            replace hx315_1 := (HB.out.cell (World.block_lt_of_cell? w _ hx315_1)).trans hx315_1
                            replace hx315_2 := (HB.out.cell (World.block_lt_of_cell? w _ hx315_2)).trans hx315_2
                            replace hx315_3 := (HB.out.cell (World.block_lt_of_cell? w _ hx315_3)).trans hx315_3
                            replace hx315_4 := (HB.out.cell (World.block_lt_of_cell? w _ hx315_4)).trans hx315_4
                            replace hx315_5 := (HB.out.cell (World.block_lt_of_cell? w _ hx315_5)).trans hx315_5
                            replace hx315_6 := (HB.out.cell (World.block_lt_of_cell? w _ hx315_6)).trans hx315_6
                            have HR315_4 := Aside0.mk hi315_4
                            have HC315_4 := Aside0.mk hl315_4
                            clear hi315_4 hl315_4
                            have HR315_6 := Aside0.mk hi315_6
                            have HC315_6 := Aside0.mk hl315_6
                            clear hi315_6 hl315_6
                            replace p315 := eq_true p315
                            replace q315 := eq_true q315
                            have ea_ := Option.some.inj (hx314_4.symm.trans hx315_4)
                            injection ea_ with ea_ en_ ec_
                            subst ea_
                            subst ec_
                            clear en_
                            have ea_ := Option.some.inj (hx314_6.symm.trans hx315_6)
                            injection ea_ with ea_ en_ ec_
                            subst ea_
                            subst ec_
                            clear en_
                            have p316 : 0 ≤ (x5_2 : Int) := of_decide_eq_true (by first | (with_reducible assumption) | assumption)
                            have q316 : x5_2 < (((rd_T73 l0_1 x4_1).f6).length : Int) := of_decide_eq_true (by first | (with_reducible assumption) | assumption)
                            obtain ⟨ad316, A316_7, c316_7, e316, hx316_0, hx316_1, hx316_2, hx316_3, hx316_4, hx316_5, hx316_6, hx316_7, hx316_8, hx316_9, hl316_7, hi316_7⟩ := at_T81 HR315_6.out x5_2 p316 q316
                            cases e316
                            replace hx316_0 := (HB.out.cell (World.block_lt_of_cell? w _ hx316_0)).trans hx316_0
                            replace hx316_1 := (HB.out.cell (World.block_lt_of_cell? w _ hx316_1)).trans hx316_1
                            replace hx316_2 := (HB.out.cell (World.block_lt_of_cell? w _ hx316_2)).trans hx316_2
                            replace hx316_3 := (HB.out.cell (World.block_lt_of_cell? w _ hx316_3)).trans hx316_3
                            replace hx316_4 := (HB.out.cell (World.block_lt_of_cell? w _ hx316_4)).trans hx316_4
                            replace hx316_5 := (HB.out.cell (World.block_lt_of_cell? w _ hx316_5)).trans hx316_5
                            replace hx316_6 := (HB.out.cell (World.block_lt_of_cell? w _ hx316_6)).trans hx316_6
                            replace hx316_7 := (HB.out.cell (World.block_lt_of_cell? w _ hx316_7)).trans hx316_7
                            replace hx316_8 := (HB.out.cell (World.block_lt_of_cell? w _ hx316_8)).trans hx316_8
                            replace hx316_9 := (HB.out.cell (World.block_lt_of_cell? w _ hx316_9)).trans hx316_9
                            have HR316_7 := Aside0.mk hi316_7
                            have HC316_7 := Aside0.mk hl316_7
                            clear hi316_7 hl316_7
                            replace p316 := eq_true p316
                            replace q316 := eq_true q316
                            go_wp2_with (first | ((with_reducible refine gate_dst (N := 6) rfl ?_); refine box_event ?hg (N := 6) ?hd (cs := #[.int .i64 0, .int .i64 0, .int .i64 0, .int .i64 0, .int .i64 0, .string (⟨#[]⟩ : ByteArray), .string (⟨#[]⟩ : ByteArray), .slice none 0 0, .int .i64 0, .int .i64 0]) (t := 81) ?hr ?_; (case hd => rfl); (case hg => rfl); (case hr => first | (go_simp; done) | (go_simp; rfl)); intro gb317 hg w14 hbox hb; have n0_ := Aside0.mk (Kd.R_below (by (with_reducible repeat (first | apply Kd.R_alloc | apply Kd.R_drewN | apply Kd.R_drew)); exact HO_3.out) hb); have n1_ := Aside0.mk (blk_below (g := gb313) (o := .cells #[.slice A0_0 l0_0.length c0_0, .slice (some ad314) l0_1.length c0_1, .int .i64 a0_2] 27 (0, 0)) (by (with_reducible repeat (first | refine blk_drewN ?_ _ | refine blk_drew ?_ | refine blk_alloc ?_ _)); exact BK313.out) hb); have n2_ := Aside0.mk (below_step (by repeat (first | (with_reducible first | exact HB.out | apply below_alloc | apply pw_below_drewN | apply below_drew1 | refine below_set ?_ GE313.out) | exact HB.out)) hb); have n3_ := Aside0.mk (hbox); have n4_ := Aside0.mk ((by rw [hg]; exact (below_size (by repeat (first | (with_reducible first | exact HB.out | apply below_alloc | apply pw_below_drewN | apply below_drew1 | refine below_set ?_ GE313.out) | exact HB.out))) : w.heap.size ≤ gb317)); have n5_ := Aside0.mk ((by rw [hg]; exact (below_size (by repeat (first | (with_reducible first | exact HB.out | apply below_alloc | apply pw_below_drewN | apply below_drew1 | refine below_set ?_ GE313.out) | exact HB.out))) : w.heap.size ≤ gb317)); have n6_ := Aside0.mk ((by rw [hg]; exact Nat.ne_of_lt (blk_lt (g := gb313) (o := .cells #[.slice A0_0 l0_0.length c0_0, .slice (some ad314) l0_1.length c0_1, .int .i64 a0_2] 27 (0, 0)) (by (with_reducible repeat (first | refine blk_drewN ?_ _ | refine blk_drew ?_ | refine blk_alloc ?_ _)); exact BK313.out)) : gb313 ≠ gb317)); have n7_ := Aside0.mk ((by rw [hg]; exact Nat.ne_of_gt (blk_lt (g := gb313) (o := .cells #[.slice A0_0 l0_0.length c0_0, .slice (some ad314) l0_1.length c0_1, .int .i64 a0_2] 27 (0, 0)) (by (with_reducible repeat (first | refine blk_drewN ?_ _ | refine blk_drew ?_ | refine blk_alloc ?_ _)); exact BK313.out)) : gb317 ≠ gb313)); clear HO_3; clear BK313; clear HB; have HO_3 := n0_; have BK313 := n1_; have HB := n2_; have BK317 := n3_; have GW317 := n4_; have GE317 := n5_; have NB313_317 := n6_; have NB317_313 := n7_; clear n0_ n1_ n2_ n3_ n4_ n5_ n6_ n7_; clear hb hbox hg; have hnb15 := NB317_313.out; have hnc15 := NB313_317.out; have hcz16_0 : w14.cell? ⟨gb317, 0, none⟩ = some (.int .i64 0) := (blk_cell BK317.out 0).trans rfl; have hcz16_1 : w14.cell? ⟨gb317, 1, none⟩ = some (.int .i64 0) := (blk_cell BK317.out 1).trans rfl; have hcz16_2 : w14.cell? ⟨gb317, 2, none⟩ = some (.int .i64 0) := (blk_cell BK317.out 2).trans rfl; have hcz16_3 : w14.cell? ⟨gb317, 3, none⟩ = some (.int .i64 0) := (blk_cell BK317.out 3).trans rfl; have hcz16_4 : w14.cell? ⟨gb317, 4, none⟩ = some (.int .i64 0) := (blk_cell BK317.out 4).trans rfl; have hcz16_5 : w14.cell? ⟨gb317, 5, none⟩ = some (.string (⟨#[]⟩ : ByteArray)) := (blk_cell BK317.out 5).trans rfl; have hcz16_6 : w14.cell? ⟨gb317, 6, none⟩ = some (.string (⟨#[]⟩ : ByteArray)) := (blk_cell BK317.out 6).trans rfl; have hcz16_7 : w14.cell? ⟨gb317, 7, none⟩ = some (.slice none 0 0) := (blk_cell BK317.out 7).trans rfl; have hcz16_8 : w14.cell? ⟨gb317, 8, none⟩ = some (.int .i64 0) := (blk_cell BK317.out 8).trans rfl; have hcz16_9 : w14.cell? ⟨gb317, 9, none⟩ = some (.int .i64 0) := (blk_cell BK317.out 9).trans rfl; have hfz16_0 := blk_frozen BK317.out 0; have hfz16_1 := blk_frozen BK317.out 1; have hfz16_2 := blk_frozen BK317.out 2; have hfz16_3 := blk_frozen BK317.out 3; have hfz16_4 := blk_frozen BK317.out 4; have hfz16_5 := blk_frozen BK317.out 5; have hfz16_6 := blk_frozen BK317.out 6; have hfz16_7 := blk_frozen BK317.out 7; have hfz16_8 := blk_frozen BK317.out 8; have hfz16_9 := blk_frozen BK317.out 9) | ((with_reducible refine gate_builtin (b := .append) (xs := #[.tmp 37, .tmp 43]) rfl ?_); at_builtin; refine Kd.R_append k48 (w0 := w) w.heap.size rfl (.tmp 37) (.tmp 43) 45 48 (.agg #[(.int .i64 0), (.int .i64 0), (.int .i64 0)]) 24 rfl Tryz.underlying45 info48 rfl (by decide) (by omega) u3 x3_2 (⟨x4_1, x5_2, (rd_T81 ((rd_T73 l0_1 x4_1).f6) x5_2).f2⟩ : S48) [.int .i64 x4_1, .int .i64 x5_2, .int .i64 ((rd_T81 ((rd_T73 l0_1 x4_1).f6) x5_2).f2)] (fun _ => True) (fun _ => False) rfl (by first | (go_simp; done) | (go_simp; rfl)) ?aP (fun _ hk => hk.elim) ?aF ?aO ?aB ?aS ?aL ?_; (case aP => exact k48_mkM _ _ _ (⟨x4_1, x5_2, (rd_T81 ((rd_T73 l0_1 x4_1).f6) x5_2).f2⟩ : S48)); (case aB => exact (by repeat (first | (with_reducible first | exact HB.out | apply below_alloc | apply pw_below_drewN | apply below_drew1 | refine below_set ?_ GE313.out | refine below_set ?_ GE317.out) | exact HB.out))); (case aF => exact (fun _ _ => trivial)); (case aO => exact (by (with_reducible repeat (first | apply Kd.R_alloc | apply Kd.R_drewN | apply Kd.R_drew)); exact Kd.R_mono (Kd.R_far (p := ⟨gb317, 9, none⟩) (Kd.R_far (p := ⟨gb317, 8, none⟩) (Kd.R_far (p := ⟨gb317, 7, none⟩) (Kd.R_far (p := ⟨gb317, 6, none⟩) (Kd.R_far (p := ⟨gb317, 5, none⟩) (Kd.R_far (p := ⟨gb317, 4, none⟩) (Kd.R_far (p := ⟨gb317, 3, none⟩) (Kd.R_far (p := ⟨gb317, 2, none⟩) (Kd.R_far (p := ⟨gb317, 1, none⟩) (Kd.R_far (p := ⟨gb317, 0, none⟩) (Kd.R_types HO_3.out BK317.out (by decide)) (fun _ hk => hk.2) (.int .i64 ((rd_T81 ((rd_T73 l0_1 x4_1).f6) x5_2).f0))) (fun _ hk => hk.2) (.int .i64 ((rd_T81 ((rd_T73 l0_1 x4_1).f6) x5_2).f1))) (fun _ hk => hk.2) (.int .i64 ((rd_T81 ((rd_T73 l0_1 x4_1).f6) x5_2).f2))) (fun _ hk => hk.2) (.int .i64 ((rd_T81 ((rd_T73 l0_1 x4_1).f6) x5_2).f3))) (fun _ hk => hk.2) (.int .i64 ((rd_T81 ((rd_T73 l0_1 x4_1).f6) x5_2).f4))) (fun _ hk => hk.2) (.string ((rd_T81 ((rd_T73 l0_1 x4_1).f6) x5_2).f5))) (fun _ hk => hk.2) (.string ((rd_T81 ((rd_T73 l0_1 x4_1).f6) x5_2).f6))) (fun _ hk => hk.2) (.slice A316_7 ((rd_T81 ((rd_T73 l0_1 x4_1).f6) x5_2).f7).length c316_7)) (fun _ hk => hk.2) (.int .i64 ((rd_T81 ((rd_T73 l0_1 x4_1).f6) x5_2).f8))) (fun _ hk => hk.2) (.int .i64 ((rd_T81 ((rd_T73 l0_1 x4_1).f6) x5_2).f9))) (fun _ hk => trivial))); (case aS => exact (below_size (by repeat (first | (with_reducible first | exact HB.out | apply below_alloc | apply pw_below_drewN | apply below_drew1 | refine below_set ?_ GE313.out | refine below_set ?_ GE317.out) | exact HB.out)))); (case aL => have := LMc10.out; omega); intro v319 w17 ho hb hg hat; rw [← Ny318.out] at ho; have n0_ := Aside0.mk (blk_grown (g := gb313) (o := .cells #[.slice A0_0 l0_0.length c0_0, .slice (some ad314) l0_1.length c0_1, .int .i64 a0_2] 27 (0, 0)) (by (with_reducible repeat (first | refine blk_drewN ?_ _ | refine blk_drew ?_ | refine blk_alloc ?_ _)); refine blk_far ?_ NB313_317.out _; (with_reducible repeat (first | refine blk_drewN ?_ _ | refine blk_drew ?_ | refine blk_alloc ?_ _)); refine blk_far ?_ NB313_317.out _; (with_reducible repeat (first | refine blk_drewN ?_ _ | refine blk_drew ?_ | refine blk_alloc ?_ _)); refine blk_far ?_ NB313_317.out _; (with_reducible repeat (first | refine blk_drewN ?_ _ | refine blk_drew ?_ | refine blk_alloc ?_ _)); refine blk_far ?_ NB313_317.out _; (with_reducible repeat (first | refine blk_drewN ?_ _ | refine blk_drew ?_ | refine blk_alloc ?_ _)); refine blk_far ?_ NB313_317.out _; (with_reducible repeat (first | refine blk_drewN ?_ _ | refine blk_drew ?_ | refine blk_alloc ?_ _)); refine blk_far ?_ NB313_317.out _; (with_reducible repeat (first | refine blk_drewN ?_ _ | refine blk_drew ?_ | refine blk_alloc ?_ _)); refine blk_far ?_ NB313_317.out _; (with_reducible repeat (first | refine blk_drewN ?_ _ | refine blk_drew ?_ | refine blk_alloc ?_ _)); refine blk_far ?_ NB313_317.out _; (with_reducible repeat (first | refine blk_drewN ?_ _ | refine blk_drew ?_ | refine blk_alloc ?_ _)); refine blk_far ?_ NB313_317.out _; (with_reducible repeat (first | refine blk_drewN ?_ _ | refine blk_drew ?_ | refine blk_alloc ?_ _)); refine blk_far ?_ NB313_317.out _; (with_reducible repeat (first | refine blk_drewN ?_ _ | refine blk_drew ?_ | refine blk_alloc ?_ _)); exact BK313.out) hg (Kd.R_ne HO_3.out BK313.out (by decide))); have n1_ := Aside0.mk (blk_grown (g := gb317) (o := .cells #[.int .i64 ((rd_T81 ((rd_T73 l0_1 x4_1).f6) x5_2).f0), .int .i64 ((rd_T81 ((rd_T73 l0_1 x4_1).f6) x5_2).f1), .int .i64 ((rd_T81 ((rd_T73 l0_1 x4_1).f6) x5_2).f2), .int .i64 ((rd_T81 ((rd_T73 l0_1 x4_1).f6) x5_2).f3), .int .i64 ((rd_T81 ((rd_T73 l0_1 x4_1).f6) x5_2).f4), .string ((rd_T81 ((rd_T73 l0_1 x4_1).f6) x5_2).f5), .string ((rd_T81 ((rd_T73 l0_1 x4_1).f6) x5_2).f6), .slice A316_7 ((rd_T81 ((rd_T73 l0_1 x4_1).f6) x5_2).f7).length c316_7, .int .i64 ((rd_T81 ((rd_T73 l0_1 x4_1).f6) x5_2).f8), .int .i64 ((rd_T81 ((rd_T73 l0_1 x4_1).f6) x5_2).f9)] 81 (0, 0)) (by (with_reducible repeat (first | refine blk_drewN ?_ _ | refine blk_drew ?_ | refine blk_alloc ?_ _)); refine blk_put (cs := #[.int .i64 ((rd_T81 ((rd_T73 l0_1 x4_1).f6) x5_2).f0), .int .i64 ((rd_T81 ((rd_T73 l0_1 x4_1).f6) x5_2).f1), .int .i64 ((rd_T81 ((rd_T73 l0_1 x4_1).f6) x5_2).f2), .int .i64 ((rd_T81 ((rd_T73 l0_1 x4_1).f6) x5_2).f3), .int .i64 ((rd_T81 ((rd_T73 l0_1 x4_1).f6) x5_2).f4), .string ((rd_T81 ((rd_T73 l0_1 x4_1).f6) x5_2).f5), .string ((rd_T81 ((rd_T73 l0_1 x4_1).f6) x5_2).f6), .slice A316_7 ((rd_T81 ((rd_T73 l0_1 x4_1).f6) x5_2).f7).length c316_7, .int .i64 ((rd_T81 ((rd_T73 l0_1 x4_1).f6) x5_2).f8), .int .i64 0]) ?_ 9 _ rfl; (with_reducible repeat (first | refine blk_drewN ?_ _ | refine blk_drew ?_ | refine blk_alloc ?_ _)); refine blk_put (cs := #[.int .i64 ((rd_T81 ((rd_T73 l0_1 x4_1).f6) x5_2).f0), .int .i64 ((rd_T81 ((rd_T73 l0_1 x4_1).f6) x5_2).f1), .int .i64 ((rd_T81 ((rd_T73 l0_1 x4_1).f6) x5_2).f2), .int .i64 ((rd_T81 ((rd_T73 l0_1 x4_1).f6) x5_2).f3), .int .i64 ((rd_T81 ((rd_T73 l0_1 x4_1).f6) x5_2).f4), .string ((rd_T81 ((rd_T73 l0_1 x4_1).f6) x5_2).f5), .string ((rd_T81 ((rd_T73 l0_1 x4_1).f6) x5_2).f6), .slice A316_7 ((rd_T81 ((rd_T73 l0_1 x4_1).f6) x5_2).f7).length c316_7, .int .i64 0, .int .i64 0]) ?_ 8 _ rfl; (with_reducible repeat (first | refine blk_drewN ?_ _ | refine blk_drew ?_ | refine blk_alloc ?_ _)); refine blk_put (cs := #[.int .i64 ((rd_T81 ((rd_T73 l0_1 x4_1).f6) x5_2).f0), .int .i64 ((rd_T81 ((rd_T73 l0_1 x4_1).f6) x5_2).f1), .int .i64 ((rd_T81 ((rd_T73 l0_1 x4_1).f6) x5_2).f2), .int .i64 ((rd_T81 ((rd_T73 l0_1 x4_1).f6) x5_2).f3), .int .i64 ((rd_T81 ((rd_T73 l0_1 x4_1).f6) x5_2).f4), .string ((rd_T81 ((rd_T73 l0_1 x4_1).f6) x5_2).f5), .string ((rd_T81 ((rd_T73 l0_1 x4_1).f6) x5_2).f6), .slice none 0 0, .int .i64 0, .int .i64 0]) ?_ 7 _ rfl; (with_reducible repeat (first | refine blk_drewN ?_ _ | refine blk_drew ?_ | refine blk_alloc ?_ _)); refine blk_put (cs := #[.int .i64 ((rd_T81 ((rd_T73 l0_1 x4_1).f6) x5_2).f0), .int .i64 ((rd_T81 ((rd_T73 l0_1 x4_1).f6) x5_2).f1), .int .i64 ((rd_T81 ((rd_T73 l0_1 x4_1).f6) x5_2).f2), .int .i64 ((rd_T81 ((rd_T73 l0_1 x4_1).f6) x5_2).f3), .int .i64 ((rd_T81 ((rd_T73 l0_1 x4_1).f6) x5_2).f4), .string ((rd_T81 ((rd_T73 l0_1 x4_1).f6) x5_2).f5), .string (⟨#[]⟩ : ByteArray), .slice none 0 0, .int .i64 0, .int .i64 0]) ?_ 6 _ rfl; (with_reducible repeat (first | refine blk_drewN ?_ _ | refine blk_drew ?_ | refine blk_alloc ?_ _)); refine blk_put (cs := #[.int .i64 ((rd_T81 ((rd_T73 l0_1 x4_1).f6) x5_2).f0), .int .i64 ((rd_T81 ((rd_T73 l0_1 x4_1).f6) x5_2).f1), .int .i64 ((rd_T81 ((rd_T73 l0_1 x4_1).f6) x5_2).f2), .int .i64 ((rd_T81 ((rd_T73 l0_1 x4_1).f6) x5_2).f3), .int .i64 ((rd_T81 ((rd_T73 l0_1 x4_1).f6) x5_2).f4), .string (⟨#[]⟩ : ByteArray), .string (⟨#[]⟩ : ByteArray), .slice none 0 0, .int .i64 0, .int .i64 0]) ?_ 5 _ rfl; (with_reducible repeat (first | refine blk_drewN ?_ _ | refine blk_drew ?_ | refine blk_alloc ?_ _)); refine blk_put (cs := #[.int .i64 ((rd_T81 ((rd_T73 l0_1 x4_1).f6) x5_2).f0), .int .i64 ((rd_T81 ((rd_T73 l0_1 x4_1).f6) x5_2).f1), .int .i64 ((rd_T81 ((rd_T73 l0_1 x4_1).f6) x5_2).f2), .int .i64 ((rd_T81 ((rd_T73 l0_1 x4_1).f6) x5_2).f3), .int .i64 0, .string (⟨#[]⟩ : ByteArray), .string (⟨#[]⟩ : ByteArray), .slice none 0 0, .int .i64 0, .int .i64 0]) ?_ 4 _ rfl; (with_reducible repeat (first | refine blk_drewN ?_ _ | refine blk_drew ?_ | refine blk_alloc ?_ _)); refine blk_put (cs := #[.int .i64 ((rd_T81 ((rd_T73 l0_1 x4_1).f6) x5_2).f0), .int .i64 ((rd_T81 ((rd_T73 l0_1 x4_1).f6) x5_2).f1), .int .i64 ((rd_T81 ((rd_T73 l0_1 x4_1).f6) x5_2).f2), .int .i64 0, .int .i64 0, .string (⟨#[]⟩ : ByteArray), .string (⟨#[]⟩ : ByteArray), .slice none 0 0, .int .i64 0, .int .i64 0]) ?_ 3 _ rfl; (with_reducible repeat (first | refine blk_drewN ?_ _ | refine blk_drew ?_ | refine blk_alloc ?_ _)); refine blk_put (cs := #[.int .i64 ((rd_T81 ((rd_T73 l0_1 x4_1).f6) x5_2).f0), .int .i64 ((rd_T81 ((rd_T73 l0_1 x4_1).f6) x5_2).f1), .int .i64 0, .int .i64 0, .int .i64 0, .string (⟨#[]⟩ : ByteArray), .string (⟨#[]⟩ : ByteArray), .slice none 0 0, .int .i64 0, .int .i64 0]) ?_ 2 _ rfl; (with_reducible repeat (first | refine blk_drewN ?_ _ | refine blk_drew ?_ | refine blk_alloc ?_ _)); refine blk_put (cs := #[.int .i64 ((rd_T81 ((rd_T73 l0_1 x4_1).f6) x5_2).f0), .int .i64 0, .int .i64 0, .int .i64 0, .int .i64 0, .string (⟨#[]⟩ : ByteArray), .string (⟨#[]⟩ : ByteArray), .slice none 0 0, .int .i64 0, .int .i64 0]) ?_ 1 _ rfl; (with_reducible repeat (first | refine blk_drewN ?_ _ | refine blk_drew ?_ | refine blk_alloc ?_ _)); refine blk_put (cs := #[.int .i64 0, .int .i64 0, .int .i64 0, .int .i64 0, .int .i64 0, .string (⟨#[]⟩ : ByteArray), .string (⟨#[]⟩ : ByteArray), .slice none 0 0, .int .i64 0, .int .i64 0]) ?_ 0 _ rfl; (with_reducible repeat (first | refine blk_drewN ?_ _ | refine blk_drew ?_ | refine blk_alloc ?_ _)); exact BK317.out) hg (Kd.R_ne HO_3.out BK317.out (by decide))); have n2_ := Aside0.mk (hb); have n3_ := Aside0.mk (ho); clear BK313; clear BK317; clear HB; clear HO_3; have BK313 := n0_; have BK317 := n1_; have HB := n2_; have HO320 := n3_; clear n0_ n1_ n2_ n3_; clear ho hb hg hat; have hcz18_0 : w17.cell? ⟨gb317, 0, none⟩ = some (.int .i64 ((rd_T81 ((rd_T73 l0_1 x4_1).f6) x5_2).f0)) := (blk_cell BK317.out 0).trans rfl; have hcz18_1 : w17.cell? ⟨gb317, 1, none⟩ = some (.int .i64 ((rd_T81 ((rd_T73 l0_1 x4_1).f6) x5_2).f1)) := (blk_cell BK317.out 1).trans rfl; have hcz18_2 : w17.cell? ⟨gb317, 2, none⟩ = some (.int .i64 ((rd_T81 ((rd_T73 l0_1 x4_1).f6) x5_2).f2)) := (blk_cell BK317.out 2).trans rfl; have hcz18_3 : w17.cell? ⟨gb317, 3, none⟩ = some (.int .i64 ((rd_T81 ((rd_T73 l0_1 x4_1).f6) x5_2).f3)) := (blk_cell BK317.out 3).trans rfl; have hcz18_4 : w17.cell? ⟨gb317, 4, none⟩ = some (.int .i64 ((rd_T81 ((rd_T73 l0_1 x4_1).f6) x5_2).f4)) := (blk_cell BK317.out 4).trans rfl; have hcz18_5 : w17.cell? ⟨gb317, 5, none⟩ = some (.string ((rd_T81 ((rd_T73 l0_1 x4_1).f6) x5_2).f5)) := (blk_cell BK317.out 5).trans rfl; have hcz18_6 : w17.cell? ⟨gb317, 6, none⟩ = some (.string ((rd_T81 ((rd_T73 l0_1 x4_1).f6) x5_2).f6)) := (blk_cell BK317.out 6).trans rfl; have hcz18_7 : w17.cell? ⟨gb317, 7, none⟩ = some (.slice A316_7 ((rd_T81 ((rd_T73 l0_1 x4_1).f6) x5_2).f7).length c316_7) := (blk_cell BK317.out 7).trans rfl; have hcz18_8 : w17.cell? ⟨gb317, 8, none⟩ = some (.int .i64 ((rd_T81 ((rd_T73 l0_1 x4_1).f6) x5_2).f8)) := (blk_cell BK317.out 8).trans rfl; have hcz18_9 : w17.cell? ⟨gb317, 9, none⟩ = some (.int .i64 ((rd_T81 ((rd_T73 l0_1 x4_1).f6) x5_2).f9)) := (blk_cell BK317.out 9).trans rfl; have hfz18_0 := blk_frozen BK317.out 0; have hfz18_1 := blk_frozen BK317.out 1; have hfz18_2 := blk_frozen BK317.out 2; have hfz18_3 := blk_frozen BK317.out 3; have hfz18_4 := blk_frozen BK317.out 4; have hfz18_5 := blk_frozen BK317.out 5; have hfz18_6 := blk_frozen BK317.out 6; have hfz18_7 := blk_frozen BK317.out 7; have hfz18_8 := blk_frozen BK317.out 8; have hfz18_9 := blk_frozen BK317.out 9) | ((with_reducible refine gate_builtin (b := .append) (xs := #[.tmp 48, .tmp 52]) rfl ?_); at_builtin; refine Kd.R_append k48 (w0 := w) w.heap.size rfl (.tmp 48) (.tmp 52) 45 48 (.agg #[(.int .i64 0), (.int .i64 0), (.int .i64 0)]) 24 rfl Tryz.underlying45 info48 rfl (by decide) (by omega) v319 y318 (⟨x4_1, x5_2, (-1)⟩ : S48) [.int .i64 x4_1, .int .i64 x5_2, .int .i64 (-1)] (fun _ => True) (fun _ => False) rfl rfl ?aP (fun _ hk => hk.elim) ?aF ?aO ?aB ?aS ?aL ?_; (case aP => exact k48_mkM _ _ _ (⟨x4_1, x5_2, (-1)⟩ : S48)); (case aB => exact (by repeat (first | (with_reducible first | exact HB.out | apply below_alloc | apply pw_below_drewN | apply below_drew1 | refine below_set ?_ GE313.out | refine below_set ?_ GE317.out) | exact HB.out))); (case aF => exact (fun _ _ => trivial)); (case aO => exact (by (with_reducible repeat (first | apply Kd.R_alloc | apply Kd.R_drewN | apply Kd.R_drew)); exact HO320.out)); (case aS => exact (below_size (by repeat (first | (with_reducible first | exact HB.out | apply below_alloc | apply pw_below_drewN | apply below_drew1 | refine below_set ?_ GE313.out | refine below_set ?_ GE317.out) | exact HB.out)))); (case aL => have := LMc12.out; omega); intro v322 w19 ho hb hg hat; rw [← Ny321.out] at ho; have n0_ := Aside0.mk (blk_grown (g := gb313) (o := .cells #[.slice A0_0 l0_0.length c0_0, .slice (some ad314) l0_1.length c0_1, .int .i64 a0_2] 27 (0, 0)) (by (with_reducible repeat (first | refine blk_drewN ?_ _ | refine blk_drew ?_ | refine blk_alloc ?_ _)); exact BK313.out) hg (Kd.R_ne HO320.out BK313.out (by decide))); have n1_ := Aside0.mk (blk_grown (g := gb317) (o := .cells #[.int .i64 ((rd_T81 ((rd_T73 l0_1 x4_1).f6) x5_2).f0), .int .i64 ((rd_T81 ((rd_T73 l0_1 x4_1).f6) x5_2).f1), .int .i64 ((rd_T81 ((rd_T73 l0_1 x4_1).f6) x5_2).f2), .int .i64 ((rd_T81 ((rd_T73 l0_1 x4_1).f6) x5_2).f3), .int .i64 ((rd_T81 ((rd_T73 l0_1 x4_1).f6) x5_2).f4), .string ((rd_T81 ((rd_T73 l0_1 x4_1).f6) x5_2).f5), .string ((rd_T81 ((rd_T73 l0_1 x4_1).f6) x5_2).f6), .slice A316_7 ((rd_T81 ((rd_T73 l0_1 x4_1).f6) x5_2).f7).length c316_7, .int .i64 ((rd_T81 ((rd_T73 l0_1 x4_1).f6) x5_2).f8), .int .i64 ((rd_T81 ((rd_T73 l0_1 x4_1).f6) x5_2).f9)] 81 (0, 0)) (by (with_reducible repeat (first | refine blk_drewN ?_ _ | refine blk_drew ?_ | refine blk_alloc ?_ _)); exact BK317.out) hg (Kd.R_ne HO320.out BK317.out (by decide))); have n2_ := Aside0.mk (hb); have n3_ := Aside0.mk (ho); clear BK313; clear BK317; clear HB; clear HO320; have BK313 := n0_; have BK317 := n1_; have HB := n2_; have HO323 := n3_; clear n0_ n1_ n2_ n3_; clear ho hb hg hat))
                            go_roundg k2
                            case measure => have := HK1.out; have := HK2.out; omega
                            case rel => exact ⟨(y321), (wrap64 (x5_2 + 1)), (by first | rfl | (simp; done) | (simp [*]; done)), H', ⟨by have := HK1.out; have := HK2.out; omega⟩, ⟨by (with_reducible repeat (first | apply Kd.R_alloc | apply Kd.R_drewN | apply Kd.R_drew)); exact HO323.out⟩, ⟨by (with_reducible repeat (first | refine blk_drewN ?_ _ | refine blk_drew ?_ | refine blk_alloc ?_ _)); exact BK313.out⟩, ⟨by repeat (first | (with_reducible first | exact HB.out | apply below_alloc | apply pw_below_drewN | apply below_drew1 | refine below_set ?_ GE313.out | refine below_set ?_ GE317.out) | exact HB.out)⟩⟩
                          · rw [if_neg c12] at H
                            exact absurd H (by simp)
                        · rw [if_neg c11] at H
                          have c11b0 : (((rd_T81 ((rd_T73 l0_1 x4_1).f6) x5_2).f0) == 10) = false := beq_eq_false_iff_ne.mpr c11
                          have c11b1 : (((rd_T81 ((rd_T73 l0_1 x4_1).f6) x5_2).f0) != 10) = true := bne_iff_ne.mpr c11
                          have H' := Aside0.mk H
                          clear H
                          have hcz20_0 : wr.cell? ⟨gb313, 0, none⟩ = some (.slice A0_0 l0_0.length c0_0) := (blk_cell BK313.out 0).trans rfl
                          have hcz20_1 : wr.cell? ⟨gb313, 1, none⟩ = some (.slice A0_1 l0_1.length c0_1) := (blk_cell BK313.out 1).trans rfl
                          have hcz20_2 : wr.cell? ⟨gb313, 2, none⟩ = some (.int .i64 a0_2) := (blk_cell BK313.out 2).trans rfl
                          have hfz20_0 := blk_frozen BK313.out 0
                          have hfz20_1 := blk_frozen BK313.out 1
                          have hfz20_2 := blk_frozen BK313.out 2
                          have p314 : 0 ≤ (x4_1 : Int) := of_decide_eq_true (by first | (with_reducible assumption) | assumption)
                          have q314 : x4_1 < (l0_1.length : Int) := of_decide_eq_true (by first | (with_reducible assumption) | assumption)
                          obtain ⟨ad314, A314_4, c314_4, A314_6, c314_6, e314, hx314_0, hx314_1, hx314_2, hx314_3, hx314_4, hx314_5, hx314_6, hl314_4, hi314_4, hl314_6, hi314_6⟩ := at_T73 HR0_1.out x4_1 p314 q314
                          cases e314
                          replace hx314_0 := (HB.out.cell (World.block_lt_of_cell? w _ hx314_0)).trans hx314_0
                          replace hx314_1 := (HB.out.cell (World.block_lt_of_cell? w _ hx314_1)).trans hx314_1
                          replace hx314_2 := (HB.out.cell (World.block_lt_of_cell? w _ hx314_2)).trans hx314_2
                          replace hx314_3 := (HB.out.cell (World.block_lt_of_cell? w _ hx314_3)).trans hx314_3
                          replace hx314_4 := (HB.out.cell (World.block_lt_of_cell? w _ hx314_4)).trans hx314_4
                          replace hx314_5 := (HB.out.cell (World.block_lt_of_cell? w _ hx314_5)).trans hx314_5
                          replace hx314_6 := (HB.out.cell (World.block_lt_of_cell? w _ hx314_6)).trans hx314_6
                          have HR314_4 := Aside0.mk hi314_4
                          have HC314_4 := Aside0.mk hl314_4
                          clear hi314_4 hl314_4
                          have HR314_6 := Aside0.mk hi314_6
                          have HC314_6 := Aside0.mk hl314_6
                          clear hi314_6 hl314_6
                          replace p314 := eq_true p314
                          replace q314 := eq_true q314
                          have p315 : 0 ≤ (x4_1 : Int) := of_decide_eq_true (by first | (with_reducible assumption) | assumption)
                          have q315 : x4_1 < (l0_1.length : Int) := of_decide_eq_true (by first | (with_reducible assumption) | assumption)
                          obtain ⟨ad315, A315_4, c315_4, A315_6, c315_6, e315, hx315_0, hx315_1, hx315_2, hx315_3, hx315_4, hx315_5, hx315_6, hl315_4, hi315_4, hl315_6, hi315_6⟩ := at_T73 HR0_1.out x4_1 p315 q315
                          obtain rfl : ad314 = ad315 := (by injection e315)
                          replace hx315_0 := (HB.out.cell (World.block_lt_of_cell? w _ hx315_0)).trans hx315_0
                          replace hx315_1 := (HB.out.cell (World.block_lt_of_cell? w _ hx315_1)).trans hx315_1
                          replace hx315_2 := (HB.out.cell (World.block_lt_of_cell? w _ hx315_2)).trans hx315_2
                          replace hx315_3 := (HB.out.cell (World.block_lt_of_cell? w _ hx315_3)).trans hx315_3
                          replace hx315_4 := (HB.out.cell (World.block_lt_of_cell? w _ hx315_4)).trans hx315_4
                          replace hx315_5 := (HB.out.cell (World.block_lt_of_cell? w _ hx315_5)).trans hx315_5
                          replace hx315_6 := (HB.out.cell (World.block_lt_of_cell? w _ hx315_6)).trans hx315_6
                          have HR315_4 := Aside0.mk hi315_4
                          have HC315_4 := Aside0.mk hl315_4
                          clear hi315_4 hl315_4
                          have HR315_6 := Aside0.mk hi315_6
                          have HC315_6 := Aside0.mk hl315_6
                          clear hi315_6 hl315_6
                          replace p315 := eq_true p315
                          replace q315 := eq_true q315
                          have ea_ := Option.some.inj (hx314_4.symm.trans hx315_4)
                          injection ea_ with ea_ en_ ec_
                          subst ea_
                          subst ec_
                          clear en_
                          have ea_ := Option.some.inj (hx314_6.symm.trans hx315_6)
                          injection ea_ with ea_ en_ ec_
                          subst ea_
                          subst ec_
                          clear en_
                          have p316 : 0 ≤ (x5_2 : Int) := of_decide_eq_true (by first | (with_reducible assumption) | assumption)
                          have q316 : x5_2 < (((rd_T73 l0_1 x4_1).f6).length : Int) := of_decide_eq_true (by first | (with_reducible assumption) | assumption)
                          obtain ⟨ad316, A316_7, c316_7, e316, hx316_0, hx316_1, hx316_2, hx316_3, hx316_4, hx316_5, hx316_6, hx316_7, hx316_8, hx316_9, hl316_7, hi316_7⟩ := at_T81 HR315_6.out x5_2 p316 q316
                          cases e316
                          replace hx316_0 := (HB.out.cell (World.block_lt_of_cell? w _ hx316_0)).trans hx316_0
                          replace hx316_1 := (HB.out.cell (World.block_lt_of_cell? w _ hx316_1)).trans hx316_1
                          replace hx316_2 := (HB.out.cell (World.block_lt_of_cell? w _ hx316_2)).trans hx316_2
                          replace hx316_3 := (HB.out.cell (World.block_lt_of_cell? w _ hx316_3)).trans hx316_3
                          replace hx316_4 := (HB.out.cell (World.block_lt_of_cell? w _ hx316_4)).trans hx316_4
                          replace hx316_5 := (HB.out.cell (World.block_lt_of_cell? w _ hx316_5)).trans hx316_5
                          replace hx316_6 := (HB.out.cell (World.block_lt_of_cell? w _ hx316_6)).trans hx316_6
                          replace hx316_7 := (HB.out.cell (World.block_lt_of_cell? w _ hx316_7)).trans hx316_7
                          replace hx316_8 := (HB.out.cell (World.block_lt_of_cell? w _ hx316_8)).trans hx316_8
                          replace hx316_9 := (HB.out.cell (World.block_lt_of_cell? w _ hx316_9)).trans hx316_9
                          have HR316_7 := Aside0.mk hi316_7
                          have HC316_7 := Aside0.mk hl316_7
                          clear hi316_7 hl316_7
                          replace p316 := eq_true p316
                          replace q316 := eq_true q316
                          go_wp2_with (first | ((with_reducible refine gate_dst (N := 6) rfl ?_); refine box_event ?hg (N := 6) ?hd (cs := #[.int .i64 0, .int .i64 0, .int .i64 0, .int .i64 0, .int .i64 0, .string (⟨#[]⟩ : ByteArray), .string (⟨#[]⟩ : ByteArray), .slice none 0 0, .int .i64 0, .int .i64 0]) (t := 81) ?hr ?_; (case hd => rfl); (case hg => rfl); (case hr => first | (go_simp; done) | (go_simp; rfl)); intro gb317 hg w21 hbox hb; have n0_ := Aside0.mk (Kd.R_below (by (with_reducible repeat (first | apply Kd.R_alloc | apply Kd.R_drewN | apply Kd.R_drew)); exact HO_3.out) hb); have n1_ := Aside0.mk (blk_below (g := gb313) (o := .cells #[.slice A0_0 l0_0.length c0_0, .slice (some ad314) l0_1.length c0_1, .int .i64 a0_2] 27 (0, 0)) (by (with_reducible repeat (first | refine blk_drewN ?_ _ | refine blk_drew ?_ | refine blk_alloc ?_ _)); exact BK313.out) hb); have n2_ := Aside0.mk (below_step (by repeat (first | (with_reducible first | exact HB.out | apply below_alloc | apply pw_below_drewN | apply below_drew1 | refine below_set ?_ GE313.out) | exact HB.out)) hb); have n3_ := Aside0.mk (hbox); have n4_ := Aside0.mk ((by rw [hg]; exact (below_size (by repeat (first | (with_reducible first | exact HB.out | apply below_alloc | apply pw_below_drewN | apply below_drew1 | refine below_set ?_ GE313.out) | exact HB.out))) : w.heap.size ≤ gb317)); have n5_ := Aside0.mk ((by rw [hg]; exact (below_size (by repeat (first | (with_reducible first | exact HB.out | apply below_alloc | apply pw_below_drewN | apply below_drew1 | refine below_set ?_ GE313.out) | exact HB.out))) : w.heap.size ≤ gb317)); have n6_ := Aside0.mk ((by rw [hg]; exact Nat.ne_of_lt (blk_lt (g := gb313) (o := .cells #[.slice A0_0 l0_0.length c0_0, .slice (some ad314) l0_1.length c0_1, .int .i64 a0_2] 27 (0, 0)) (by (with_reducible repeat (first | refine blk_drewN ?_ _ | refine blk_drew ?_ | refine blk_alloc ?_ _)); exact BK313.out)) : gb313 ≠ gb317)); have n7_ := Aside0.mk ((by rw [hg]; exact Nat.ne_of_gt (blk_lt (g := gb313) (o := .cells #[.slice A0_0 l0_0.length c0_0, .slice (some ad314) l0_1.length c0_1, .int .i64 a0_2] 27 (0, 0)) (by (with_reducible repeat (first | refine blk_drewN ?_ _ | refine blk_drew ?_ | refine blk_alloc ?_ _)); exact BK313.out)) : gb317 ≠ gb313)); clear HO_3; clear BK313; clear HB; have HO_3 := n0_; have BK313 := n1_; have HB := n2_; have BK317 := n3_; have GW317 := n4_; have GE317 := n5_; have NB313_317 := n6_; have NB317_313 := n7_; clear n0_ n1_ n2_ n3_ n4_ n5_ n6_ n7_; clear hb hbox hg; have hnb22 := NB317_313.out; have hnc22 := NB313_317.out; have hcz23_0 : w21.cell? ⟨gb317, 0, none⟩ = some (.int .i64 0) := (blk_cell BK317.out 0).trans rfl; have hcz23_1 : w21.cell? ⟨gb317, 1, none⟩ = some (.int .i64 0) := (blk_cell BK317.out 1).trans rfl; have hcz23_2 : w21.cell? ⟨gb317, 2, none⟩ = some (.int .i64 0) := (blk_cell BK317.out 2).trans rfl; have hcz23_3 : w21.cell? ⟨gb317, 3, none⟩ = some (.int .i64 0) := (blk_cell BK317.out 3).trans rfl; have hcz23_4 : w21.cell? ⟨gb317, 4, none⟩ = some (.int .i64 0) := (blk_cell BK317.out 4).trans rfl; have hcz23_5 : w21.cell? ⟨gb317, 5, none⟩ = some (.string (⟨#[]⟩ : ByteArray)) := (blk_cell BK317.out 5).trans rfl; have hcz23_6 : w21.cell? ⟨gb317, 6, none⟩ = some (.string (⟨#[]⟩ : ByteArray)) := (blk_cell BK317.out 6).trans rfl; have hcz23_7 : w21.cell? ⟨gb317, 7, none⟩ = some (.slice none 0 0) := (blk_cell BK317.out 7).trans rfl; have hcz23_8 : w21.cell? ⟨gb317, 8, none⟩ = some (.int .i64 0) := (blk_cell BK317.out 8).trans rfl; have hcz23_9 : w21.cell? ⟨gb317, 9, none⟩ = some (.int .i64 0) := (blk_cell BK317.out 9).trans rfl; have hfz23_0 := blk_frozen BK317.out 0; have hfz23_1 := blk_frozen BK317.out 1; have hfz23_2 := blk_frozen BK317.out 2; have hfz23_3 := blk_frozen BK317.out 3; have hfz23_4 := blk_frozen BK317.out 4; have hfz23_5 := blk_frozen BK317.out 5; have hfz23_6 := blk_frozen BK317.out 6; have hfz23_7 := blk_frozen BK317.out 7; have hfz23_8 := blk_frozen BK317.out 8; have hfz23_9 := blk_frozen BK317.out 9) | ((with_reducible refine gate_builtin (b := .append) (xs := #[.tmp 37, .tmp 43]) rfl ?_); at_builtin; refine Kd.R_append k48 (w0 := w) w.heap.size rfl (.tmp 37) (.tmp 43) 45 48 (.agg #[(.int .i64 0), (.int .i64 0), (.int .i64 0)]) 24 rfl Tryz.underlying45 info48 rfl (by decide) (by omega) u3 x3_2 (⟨x4_1, x5_2, (rd_T81 ((rd_T73 l0_1 x4_1).f6) x5_2).f2⟩ : S48) [.int .i64 x4_1, .int .i64 x5_2, .int .i64 ((rd_T81 ((rd_T73 l0_1 x4_1).f6) x5_2).f2)] (fun _ => True) (fun _ => False) rfl (by first | (go_simp; done) | (go_simp; rfl)) ?aP (fun _ hk => hk.elim) ?aF ?aO ?aB ?aS ?aL ?_; (case aP => exact k48_mkM _ _ _ (⟨x4_1, x5_2, (rd_T81 ((rd_T73 l0_1 x4_1).f6) x5_2).f2⟩ : S48)); (case aB => exact (by repeat (first | (with_reducible first | exact HB.out | apply below_alloc | apply pw_below_drewN | apply below_drew1 | refine below_set ?_ GE313.out | refine below_set ?_ GE317.out) | exact HB.out))); (case aF => exact (fun _ _ => trivial)); (case aO => exact (by (with_reducible repeat (first | apply Kd.R_alloc | apply Kd.R_drewN | apply Kd.R_drew)); exact Kd.R_mono (Kd.R_far (p := ⟨gb317, 9, none⟩) (Kd.R_far (p := ⟨gb317, 8, none⟩) (Kd.R_far (p := ⟨gb317, 7, none⟩) (Kd.R_far (p := ⟨gb317, 6, none⟩) (Kd.R_far (p := ⟨gb317, 5, none⟩) (Kd.R_far (p := ⟨gb317, 4, none⟩) (Kd.R_far (p := ⟨gb317, 3, none⟩) (Kd.R_far (p := ⟨gb317, 2, none⟩) (Kd.R_far (p := ⟨gb317, 1, none⟩) (Kd.R_far (p := ⟨gb317, 0, none⟩) (Kd.R_types HO_3.out BK317.out (by decide)) (fun _ hk => hk.2) (.int .i64 ((rd_T81 ((rd_T73 l0_1 x4_1).f6) x5_2).f0))) (fun _ hk => hk.2) (.int .i64 ((rd_T81 ((rd_T73 l0_1 x4_1).f6) x5_2).f1))) (fun _ hk => hk.2) (.int .i64 ((rd_T81 ((rd_T73 l0_1 x4_1).f6) x5_2).f2))) (fun _ hk => hk.2) (.int .i64 ((rd_T81 ((rd_T73 l0_1 x4_1).f6) x5_2).f3))) (fun _ hk => hk.2) (.int .i64 ((rd_T81 ((rd_T73 l0_1 x4_1).f6) x5_2).f4))) (fun _ hk => hk.2) (.string ((rd_T81 ((rd_T73 l0_1 x4_1).f6) x5_2).f5))) (fun _ hk => hk.2) (.string ((rd_T81 ((rd_T73 l0_1 x4_1).f6) x5_2).f6))) (fun _ hk => hk.2) (.slice A316_7 ((rd_T81 ((rd_T73 l0_1 x4_1).f6) x5_2).f7).length c316_7)) (fun _ hk => hk.2) (.int .i64 ((rd_T81 ((rd_T73 l0_1 x4_1).f6) x5_2).f8))) (fun _ hk => hk.2) (.int .i64 ((rd_T81 ((rd_T73 l0_1 x4_1).f6) x5_2).f9))) (fun _ hk => trivial))); (case aS => exact (below_size (by repeat (first | (with_reducible first | exact HB.out | apply below_alloc | apply pw_below_drewN | apply below_drew1 | refine below_set ?_ GE313.out | refine below_set ?_ GE317.out) | exact HB.out)))); (case aL => have := LMc10.out; omega); intro v319 w24 ho hb hg hat; rw [← Ny318.out] at ho; have n0_ := Aside0.mk (blk_grown (g := gb313) (o := .cells #[.slice A0_0 l0_0.length c0_0, .slice (some ad314) l0_1.length c0_1, .int .i64 a0_2] 27 (0, 0)) (by (with_reducible repeat (first | refine blk_drewN ?_ _ | refine blk_drew ?_ | refine blk_alloc ?_ _)); refine blk_far ?_ NB313_317.out _; (with_reducible repeat (first | refine blk_drewN ?_ _ | refine blk_drew ?_ | refine blk_alloc ?_ _)); refine blk_far ?_ NB313_317.out _; (with_reducible repeat (first | refine blk_drewN ?_ _ | refine blk_drew ?_ | refine blk_alloc ?_ _)); refine blk_far ?_ NB313_317.out _; (with_reducible repeat (first | refine blk_drewN ?_ _ | refine blk_drew ?_ | refine blk_alloc ?_ _)); refine blk_far ?_ NB313_317.out _; (with_reducible repeat (first | refine blk_drewN ?_ _ | refine blk_drew ?_ | refine blk_alloc ?_ _)); refine blk_far ?_ NB313_317.out _; (with_reducible repeat (first | refine blk_drewN ?_ _ | refine blk_drew ?_ | refine blk_alloc ?_ _)); refine blk_far ?_ NB313_317.out _; (with_reducible repeat (first | refine blk_drewN ?_ _ | refine blk_drew ?_ | refine blk_alloc ?_ _)); refine blk_far ?_ NB313_317.out _; (with_reducible repeat (first | refine blk_drewN ?_ _ | refine blk_drew ?_ | refine blk_alloc ?_ _)); refine blk_far ?_ NB313_317.out _; (with_reducible repeat (first | refine blk_drewN ?_ _ | refine blk_drew ?_ | refine blk_alloc ?_ _)); refine blk_far ?_ NB313_317.out _; (with_reducible repeat (first | refine blk_drewN ?_ _ | refine blk_drew ?_ | refine blk_alloc ?_ _)); refine blk_far ?_ NB313_317.out _; (with_reducible repeat (first | refine blk_drewN ?_ _ | refine blk_drew ?_ | refine blk_alloc ?_ _)); exact BK313.out) hg (Kd.R_ne HO_3.out BK313.out (by decide))); have n1_ := Aside0.mk (blk_grown (g := gb317) (o := .cells #[.int .i64 ((rd_T81 ((rd_T73 l0_1 x4_1).f6) x5_2).f0), .int .i64 ((rd_T81 ((rd_T73 l0_1 x4_1).f6) x5_2).f1), .int .i64 ((rd_T81 ((rd_T73 l0_1 x4_1).f6) x5_2).f2), .int .i64 ((rd_T81 ((rd_T73 l0_1 x4_1).f6) x5_2).f3), .int .i64 ((rd_T81 ((rd_T73 l0_1 x4_1).f6) x5_2).f4), .string ((rd_T81 ((rd_T73 l0_1 x4_1).f6) x5_2).f5), .string ((rd_T81 ((rd_T73 l0_1 x4_1).f6) x5_2).f6), .slice A316_7 ((rd_T81 ((rd_T73 l0_1 x4_1).f6) x5_2).f7).length c316_7, .int .i64 ((rd_T81 ((rd_T73 l0_1 x4_1).f6) x5_2).f8), .int .i64 ((rd_T81 ((rd_T73 l0_1 x4_1).f6) x5_2).f9)] 81 (0, 0)) (by (with_reducible repeat (first | refine blk_drewN ?_ _ | refine blk_drew ?_ | refine blk_alloc ?_ _)); refine blk_put (cs := #[.int .i64 ((rd_T81 ((rd_T73 l0_1 x4_1).f6) x5_2).f0), .int .i64 ((rd_T81 ((rd_T73 l0_1 x4_1).f6) x5_2).f1), .int .i64 ((rd_T81 ((rd_T73 l0_1 x4_1).f6) x5_2).f2), .int .i64 ((rd_T81 ((rd_T73 l0_1 x4_1).f6) x5_2).f3), .int .i64 ((rd_T81 ((rd_T73 l0_1 x4_1).f6) x5_2).f4), .string ((rd_T81 ((rd_T73 l0_1 x4_1).f6) x5_2).f5), .string ((rd_T81 ((rd_T73 l0_1 x4_1).f6) x5_2).f6), .slice A316_7 ((rd_T81 ((rd_T73 l0_1 x4_1).f6) x5_2).f7).length c316_7, .int .i64 ((rd_T81 ((rd_T73 l0_1 x4_1).f6) x5_2).f8), .int .i64 0]) ?_ 9 _ rfl; (with_reducible repeat (first | refine blk_drewN ?_ _ | refine blk_drew ?_ | refine blk_alloc ?_ _)); refine blk_put (cs := #[.int .i64 ((rd_T81 ((rd_T73 l0_1 x4_1).f6) x5_2).f0), .int .i64 ((rd_T81 ((rd_T73 l0_1 x4_1).f6) x5_2).f1), .int .i64 ((rd_T81 ((rd_T73 l0_1 x4_1).f6) x5_2).f2), .int .i64 ((rd_T81 ((rd_T73 l0_1 x4_1).f6) x5_2).f3), .int .i64 ((rd_T81 ((rd_T73 l0_1 x4_1).f6) x5_2).f4), .string ((rd_T81 ((rd_T73 l0_1 x4_1).f6) x5_2).f5), .string ((rd_T81 ((rd_T73 l0_1 x4_1).f6) x5_2).f6), .slice A316_7 ((rd_T81 ((rd_T73 l0_1 x4_1).f6) x5_2).f7).length c316_7, .int .i64 0, .int .i64 0]) ?_ 8 _ rfl; (with_reducible repeat (first | refine blk_drewN ?_ _ | refine blk_drew ?_ | refine blk_alloc ?_ _)); refine blk_put (cs := #[.int .i64 ((rd_T81 ((rd_T73 l0_1 x4_1).f6) x5_2).f0), .int .i64 ((rd_T81 ((rd_T73 l0_1 x4_1).f6) x5_2).f1), .int .i64 ((rd_T81 ((rd_T73 l0_1 x4_1).f6) x5_2).f2), .int .i64 ((rd_T81 ((rd_T73 l0_1 x4_1).f6) x5_2).f3), .int .i64 ((rd_T81 ((rd_T73 l0_1 x4_1).f6) x5_2).f4), .string ((rd_T81 ((rd_T73 l0_1 x4_1).f6) x5_2).f5), .string ((rd_T81 ((rd_T73 l0_1 x4_1).f6) x5_2).f6), .slice none 0 0, .int .i64 0, .int .i64 0]) ?_ 7 _ rfl; (with_reducible repeat (first | refine blk_drewN ?_ _ | refine blk_drew ?_ | refine blk_alloc ?_ _)); refine blk_put (cs := #[.int .i64 ((rd_T81 ((rd_T73 l0_1 x4_1).f6) x5_2).f0), .int .i64 ((rd_T81 ((rd_T73 l0_1 x4_1).f6) x5_2).f1), .int .i64 ((rd_T81 ((rd_T73 l0_1 x4_1).f6) x5_2).f2), .int .i64 ((rd_T81 ((rd_T73 l0_1 x4_1).f6) x5_2).f3), .int .i64 ((rd_T81 ((rd_T73 l0_1 x4_1).f6) x5_2).f4), .string ((rd_T81 ((rd_T73 l0_1 x4_1).f6) x5_2).f5), .string (⟨#[]⟩ : ByteArray), .slice none 0 0, .int .i64 0, .int .i64 0]) ?_ 6 _ rfl; (with_reducible repeat (first | refine blk_drewN ?_ _ | refine blk_drew ?_ | refine blk_alloc ?_ _)); refine blk_put (cs := #[.int .i64 ((rd_T81 ((rd_T73 l0_1 x4_1).f6) x5_2).f0), .int .i64 ((rd_T81 ((rd_T73 l0_1 x4_1).f6) x5_2).f1), .int .i64 ((rd_T81 ((rd_T73 l0_1 x4_1).f6) x5_2).f2), .int .i64 ((rd_T81 ((rd_T73 l0_1 x4_1).f6) x5_2).f3), .int .i64 ((rd_T81 ((rd_T73 l0_1 x4_1).f6) x5_2).f4), .string (⟨#[]⟩ : ByteArray), .string (⟨#[]⟩ : ByteArray), .slice none 0 0, .int .i64 0, .int .i64 0]) ?_ 5 _ rfl; (with_reducible repeat (first | refine blk_drewN ?_ _ | refine blk_drew ?_ | refine blk_alloc ?_ _)); refine blk_put (cs := #[.int .i64 ((rd_T81 ((rd_T73 l0_1 x4_1).f6) x5_2).f0), .int .i64 ((rd_T81 ((rd_T73 l0_1 x4_1).f6) x5_2).f1), .int .i64 ((rd_T81 ((rd_T73 l0_1 x4_1).f6) x5_2).f2), .int .i64 ((rd_T81 ((rd_T73 l0_1 x4_1).f6) x5_2).f3), .int .i64 0, .string (⟨#[]⟩ : ByteArray), .string (⟨#[]⟩ : ByteArray), .slice none 0 0, .int .i64 0, .int .i64 0]) ?_ 4 _ rfl; (with_reducible repeat (first | refine blk_drewN ?_ _ | refine blk_drew ?_ | refine blk_alloc ?_ _)); refine blk_put (cs := #[.int .i64 ((rd_T81 ((rd_T73 l0_1 x4_1).f6) x5_2).f0), .int .i64 ((rd_T81 ((rd_T73 l0_1 x4_1).f6) x5_2).f1), .int .i64 ((rd_T81 ((rd_T73 l0_1 x4_1).f6) x5_2).f2), .int .i64 0, .int .i64 0, .string (⟨#[]⟩ : ByteArray), .string (⟨#[]⟩ : ByteArray), .slice none 0 0, .int .i64 0, .int .i64 0]) ?_ 3 _ rfl; (with_reducible repeat (first | refine blk_drewN ?_ _ | refine blk_drew ?_ | refine blk_alloc ?_ _)); refine blk_put (cs := #[.int .i64 ((rd_T81 ((rd_T73 l0_1 x4_1).f6) x5_2).f0), .int .i64 ((rd_T81 ((rd_T73 l0_1 x4_1).f6) x5_2).f1), .int .i64 0, .int .i64 0, .int .i64 0, .string (⟨#[]⟩ : ByteArray), .string (⟨#[]⟩ : ByteArray), .slice none 0 0, .int .i64 0, .int .i64 0]) ?_ 2 _ rfl; (with_reducible repeat (first | refine blk_drewN ?_ _ | refine blk_drew ?_ | refine blk_alloc ?_ _)); refine blk_put (cs := #[.int .i64 ((rd_T81 ((rd_T73 l0_1 x4_1).f6) x5_2).f0), .int .i64 0, .int .i64 0, .int .i64 0, .int .i64 0, .string (⟨#[]⟩ : ByteArray), .string (⟨#[]⟩ : ByteArray), .slice none 0 0, .int .i64 0, .int .i64 0]) ?_ 1 _ rfl; (with_reducible repeat (first | refine blk_drewN ?_ _ | refine blk_drew ?_ | refine blk_alloc ?_ _)); refine blk_put (cs := #[.int .i64 0, .int .i64 0, .int .i64 0, .int .i64 0, .int .i64 0, .string (⟨#[]⟩ : ByteArray), .string (⟨#[]⟩ : ByteArray), .slice none 0 0, .int .i64 0, .int .i64 0]) ?_ 0 _ rfl; (with_reducible repeat (first | refine blk_drewN ?_ _ | refine blk_drew ?_ | refine blk_alloc ?_ _)); exact BK317.out) hg (Kd.R_ne HO_3.out BK317.out (by decide))); have n2_ := Aside0.mk (hb); have n3_ := Aside0.mk (ho); clear BK313; clear BK317; clear HB; clear HO_3; have BK313 := n0_; have BK317 := n1_; have HB := n2_; have HO320 := n3_; clear n0_ n1_ n2_ n3_; clear ho hb hg hat; have hcz25_0 : w24.cell? ⟨gb317, 0, none⟩ = some (.int .i64 ((rd_T81 ((rd_T73 l0_1 x4_1).f6) x5_2).f0)) := (blk_cell BK317.out 0).trans rfl; have hcz25_1 : w24.cell? ⟨gb317, 1, none⟩ = some (.int .i64 ((rd_T81 ((rd_T73 l0_1 x4_1).f6) x5_2).f1)) := (blk_cell BK317.out 1).trans rfl; have hcz25_2 : w24.cell? ⟨gb317, 2, none⟩ = some (.int .i64 ((rd_T81 ((rd_T73 l0_1 x4_1).f6) x5_2).f2)) := (blk_cell BK317.out 2).trans rfl; have hcz25_3 : w24.cell? ⟨gb317, 3, none⟩ = some (.int .i64 ((rd_T81 ((rd_T73 l0_1 x4_1).f6) x5_2).f3)) := (blk_cell BK317.out 3).trans rfl; have hcz25_4 : w24.cell? ⟨gb317, 4, none⟩ = some (.int .i64 ((rd_T81 ((rd_T73 l0_1 x4_1).f6) x5_2).f4)) := (blk_cell BK317.out 4).trans rfl; have hcz25_5 : w24.cell? ⟨gb317, 5, none⟩ = some (.string ((rd_T81 ((rd_T73 l0_1 x4_1).f6) x5_2).f5)) := (blk_cell BK317.out 5).trans rfl; have hcz25_6 : w24.cell? ⟨gb317, 6, none⟩ = some (.string ((rd_T81 ((rd_T73 l0_1 x4_1).f6) x5_2).f6)) := (blk_cell BK317.out 6).trans rfl; have hcz25_7 : w24.cell? ⟨gb317, 7, none⟩ = some (.slice A316_7 ((rd_T81 ((rd_T73 l0_1 x4_1).f6) x5_2).f7).length c316_7) := (blk_cell BK317.out 7).trans rfl; have hcz25_8 : w24.cell? ⟨gb317, 8, none⟩ = some (.int .i64 ((rd_T81 ((rd_T73 l0_1 x4_1).f6) x5_2).f8)) := (blk_cell BK317.out 8).trans rfl; have hcz25_9 : w24.cell? ⟨gb317, 9, none⟩ = some (.int .i64 ((rd_T81 ((rd_T73 l0_1 x4_1).f6) x5_2).f9)) := (blk_cell BK317.out 9).trans rfl; have hfz25_0 := blk_frozen BK317.out 0; have hfz25_1 := blk_frozen BK317.out 1; have hfz25_2 := blk_frozen BK317.out 2; have hfz25_3 := blk_frozen BK317.out 3; have hfz25_4 := blk_frozen BK317.out 4; have hfz25_5 := blk_frozen BK317.out 5; have hfz25_6 := blk_frozen BK317.out 6; have hfz25_7 := blk_frozen BK317.out 7; have hfz25_8 := blk_frozen BK317.out 8; have hfz25_9 := blk_frozen BK317.out 9))
                          go_roundg k2
                          case measure => have := HK1.out; have := HK2.out; omega
                          case rel => exact ⟨(y318), (wrap64 (x5_2 + 1)), (by first | rfl | (simp; done) | (simp [*]; done)), H', ⟨by have := HK1.out; have := HK2.out; omega⟩, ⟨by (with_reducible repeat (first | apply Kd.R_alloc | apply Kd.R_drewN | apply Kd.R_drew)); exact HO320.out⟩, ⟨by (with_reducible repeat (first | refine blk_drewN ?_ _ | refine blk_drew ?_ | refine blk_alloc ?_ _)); exact BK313.out⟩, ⟨by repeat (first | (with_reducible first | exact HB.out | apply below_alloc | apply pw_below_drewN | apply below_drew1 | refine below_set ?_ GE313.out | refine below_set ?_ GE317.out) | exact HB.out)⟩⟩
                      · rw [if_neg c10] at H
                        exact absurd H (by simp)
                    · rw [if_neg c9] at H
                      have c9b0 : (((rd_T81 ((rd_T73 l0_1 x4_1).f6) x5_2).f0) == 9) = false := beq_eq_false_iff_ne.mpr c9
                      have c9b1 : (((rd_T81 ((rd_T73 l0_1 x4_1).f6) x5_2).f0) != 9) = true := bne_iff_ne.mpr c9
                      by_cases c26 : ((rd_T81 ((rd_T73 l0_1 x4_1).f6) x5_2).f0) = 10
                      · rw [if_pos c26] at H
                        have c26b0 : (((rd_T81 ((rd_T73 l0_1 x4_1).f6) x5_2).f0) == 10) = true := beq_iff_eq.mpr c26
                        have c26b1 : (((rd_T81 ((rd_T73 l0_1 x4_1).f6) x5_2).f0) != 10) = false := bne_eq_false_iff_eq.mpr c26
                        clear c26
                        by_cases c27 : x3_2.length < 5864062014805
                        · rw [if_pos c27] at H
                          have LMc27 := Aside0.mk c27
                          clear c27
                          obtain ⟨y324, hy324⟩ : ∃ y_ : List (S48), y_ = (x3_2 ++ [(⟨x4_1, x5_2, (-1)⟩ : S48)]) := ⟨_, rfl⟩
                          replace H : (dataflowref22_Calls.l1 k2 y324 x4_1 (wrap64 (x5_2 + 1)) l0_0 l0_1 a0_2) = some r := by first | (rw [hy324]; with_reducible exact H) | (have H2_ := (Option.bind_some _ _).symm.trans H; rw [hy324]; with_reducible exact H2_) | (have H2_ := (Option.bind_some _ _).symm.trans H; with_reducible exact H2_) | with_reducible exact H | (rw [hy324]; exact H) | exact H
                          have Ny324 := Aside0.mk hy324
                          clear hy324
                          have H' := Aside0.mk H
                          clear H
                          have hcz28_0 : wr.cell? ⟨gb313, 0, none⟩ = some (.slice A0_0 l0_0.length c0_0) := (blk_cell BK313.out 0).trans rfl
                          have hcz28_1 : wr.cell? ⟨gb313, 1, none⟩ = some (.slice A0_1 l0_1.length c0_1) := (blk_cell BK313.out 1).trans rfl
                          have hcz28_2 : wr.cell? ⟨gb313, 2, none⟩ = some (.int .i64 a0_2) := (blk_cell BK313.out 2).trans rfl
                          have hfz28_0 := blk_frozen BK313.out 0
                          have hfz28_1 := blk_frozen BK313.out 1
                          have hfz28_2 := blk_frozen BK313.out 2
                          have p314 : 0 ≤ (x4_1 : Int) := of_decide_eq_true (by first | (with_reducible assumption) | assumption)
                          have q314 : x4_1 < (l0_1.length : Int) := of_decide_eq_true (by first | (with_reducible assumption) | assumption)
                          obtain ⟨ad314, A314_4, c314_4, A314_6, c314_6, e314, hx314_0, hx314_1, hx314_2, hx314_3, hx314_4, hx314_5, hx314_6, hl314_4, hi314_4, hl314_6, hi314_6⟩ := at_T73 HR0_1.out x4_1 p314 q314
                          cases e314
                          replace hx314_0 := (HB.out.cell (World.block_lt_of_cell? w _ hx314_0)).trans hx314_0
                          replace hx314_1 := (HB.out.cell (World.block_lt_of_cell? w _ hx314_1)).trans hx314_1
                          replace hx314_2 := (HB.out.cell (World.block_lt_of_cell? w _ hx314_2)).trans hx314_2
                          replace hx314_3 := (HB.out.cell (World.block_lt_of_cell? w _ hx314_3)).trans hx314_3
                          replace hx314_4 := (HB.out.cell (World.block_lt_of_cell? w _ hx314_4)).trans hx314_4
                          replace hx314_5 := (HB.out.cell (World.block_lt_of_cell? w _ hx314_5)).trans hx314_5
                          replace hx314_6 := (HB.out.cell (World.block_lt_of_cell? w _ hx314_6)).trans hx314_6
                          have HR314_4 := Aside0.mk hi314_4
                          have HC314_4 := Aside0.mk hl314_4
                          clear hi314_4 hl314_4
                          have HR314_6 := Aside0.mk hi314_6
                          have HC314_6 := Aside0.mk hl314_6
                          clear hi314_6 hl314_6
                          replace p314 := eq_true p314
                          replace q314 := eq_true q314
                          have p315 : 0 ≤ (x4_1 : Int) := of_decide_eq_true (by first | (with_reducible assumption) | assumption)
                          have q315 : x4_1 < (l0_1.length : Int) := of_decide_eq_true (by first | (with_reducible assumption) | assumption)
                          obtain ⟨ad315, A315_4, c315_4, A315_6, c315_6, e315, hx315_0, hx315_1, hx315_2, hx315_3, hx315_4, hx315_5, hx315_6, hl315_4, hi315_4, hl315_6, hi315_6⟩ := at_T73 HR0_1.out x4_1 p315 q315
                          obtain rfl : ad314 = ad315 := (by injection e315)
                          replace hx315_0 := (HB.out.cell (World.block_lt_of_cell? w _ hx315_0)).trans hx315_0
                          replace hx315_1 := (HB.out.cell (World.block_lt_of_cell? w _ hx315_1)).trans hx315_1
                          replace hx315_2 := (HB.out.cell (World.block_lt_of_cell? w _ hx315_2)).trans hx315_2
                          replace hx315_3 := (HB.out.cell (World.block_lt_of_cell? w _ hx315_3)).trans hx315_3
                          replace hx315_4 := (HB.out.cell (World.block_lt_of_cell? w _ hx315_4)).trans hx315_4
                          replace hx315_5 := (HB.out.cell (World.block_lt_of_cell? w _ hx315_5)).trans hx315_5
                          replace hx315_6 := (HB.out.cell (World.block_lt_of_cell? w _ hx315_6)).trans hx315_6
                          have HR315_4 := Aside0.mk hi315_4
                          have HC315_4 := Aside0.mk hl315_4
                          clear hi315_4 hl315_4
                          have HR315_6 := Aside0.mk hi315_6
                          have HC315_6 := Aside0.mk hl315_6
                          clear hi315_6 hl315_6
                          replace p315 := eq_true p315
                          replace q315 := eq_true q315
                          have ea_ := Option.some.inj (hx314_4.symm.trans hx315_4)
                          injection ea_ with ea_ en_ ec_
                          subst ea_
                          subst ec_
                          clear en_
                          have ea_ := Option.some.inj (hx314_6.symm.trans hx315_6)
                          injection ea_ with ea_ en_ ec_
                          subst ea_
                          subst ec_
                          clear en_
                          have p316 : 0 ≤ (x5_2 : Int) := of_decide_eq_true (by first | (with_reducible assumption) | assumption)
                          have q316 : x5_2 < (((rd_T73 l0_1 x4_1).f6).length : Int) := of_decide_eq_true (by first | (with_reducible assumption) | assumption)
                          obtain ⟨ad316, A316_7, c316_7, e316, hx316_0, hx316_1, hx316_2, hx316_3, hx316_4, hx316_5, hx316_6, hx316_7, hx316_8, hx316_9, hl316_7, hi316_7⟩ := at_T81 HR315_6.out x5_2 p316 q316
                          cases e316
                          replace hx316_0 := (HB.out.cell (World.block_lt_of_cell? w _ hx316_0)).trans hx316_0
                          replace hx316_1 := (HB.out.cell (World.block_lt_of_cell? w _ hx316_1)).trans hx316_1
                          replace hx316_2 := (HB.out.cell (World.block_lt_of_cell? w _ hx316_2)).trans hx316_2
                          replace hx316_3 := (HB.out.cell (World.block_lt_of_cell? w _ hx316_3)).trans hx316_3
                          replace hx316_4 := (HB.out.cell (World.block_lt_of_cell? w _ hx316_4)).trans hx316_4
                          replace hx316_5 := (HB.out.cell (World.block_lt_of_cell? w _ hx316_5)).trans hx316_5
                          replace hx316_6 := (HB.out.cell (World.block_lt_of_cell? w _ hx316_6)).trans hx316_6
                          replace hx316_7 := (HB.out.cell (World.block_lt_of_cell? w _ hx316_7)).trans hx316_7
                          replace hx316_8 := (HB.out.cell (World.block_lt_of_cell? w _ hx316_8)).trans hx316_8
                          replace hx316_9 := (HB.out.cell (World.block_lt_of_cell? w _ hx316_9)).trans hx316_9
                          have HR316_7 := Aside0.mk hi316_7
                          have HC316_7 := Aside0.mk hl316_7
                          clear hi316_7 hl316_7
                          replace p316 := eq_true p316
                          replace q316 := eq_true q316
                          go_wp2_with (first | ((with_reducible refine gate_dst (N := 6) rfl ?_); refine box_event ?hg (N := 6) ?hd (cs := #[.int .i64 0, .int .i64 0, .int .i64 0, .int .i64 0, .int .i64 0, .string (⟨#[]⟩ : ByteArray), .string (⟨#[]⟩ : ByteArray), .slice none 0 0, .int .i64 0, .int .i64 0]) (t := 81) ?hr ?_; (case hd => rfl); (case hg => rfl); (case hr => first | (go_simp; done) | (go_simp; rfl)); intro gb317 hg w29 hbox hb; have n0_ := Aside0.mk (Kd.R_below (by (with_reducible repeat (first | apply Kd.R_alloc | apply Kd.R_drewN | apply Kd.R_drew)); exact HO_3.out) hb); have n1_ := Aside0.mk (blk_below (g := gb313) (o := .cells #[.slice A0_0 l0_0.length c0_0, .slice (some ad314) l0_1.length c0_1, .int .i64 a0_2] 27 (0, 0)) (by (with_reducible repeat (first | refine blk_drewN ?_ _ | refine blk_drew ?_ | refine blk_alloc ?_ _)); exact BK313.out) hb); have n2_ := Aside0.mk (below_step (by repeat (first | (with_reducible first | exact HB.out | apply below_alloc | apply pw_below_drewN | apply below_drew1 | refine below_set ?_ GE313.out) | exact HB.out)) hb); have n3_ := Aside0.mk (hbox); have n4_ := Aside0.mk ((by rw [hg]; exact (below_size (by repeat (first | (with_reducible first | exact HB.out | apply below_alloc | apply pw_below_drewN | apply below_drew1 | refine below_set ?_ GE313.out) | exact HB.out))) : w.heap.size ≤ gb317)); have n5_ := Aside0.mk ((by rw [hg]; exact (below_size (by repeat (first | (with_reducible first | exact HB.out | apply below_alloc | apply pw_below_drewN | apply below_drew1 | refine below_set ?_ GE313.out) | exact HB.out))) : w.heap.size ≤ gb317)); have n6_ := Aside0.mk ((by rw [hg]; exact Nat.ne_of_lt (blk_lt (g := gb313) (o := .cells #[.slice A0_0 l0_0.length c0_0, .slice (some ad314) l0_1.length c0_1, .int .i64 a0_2] 27 (0, 0)) (by (with_reducible repeat (first | refine blk_drewN ?_ _ | refine blk_drew ?_ | refine blk_alloc ?_ _)); exact BK313.out)) : gb313 ≠ gb317)); have n7_ := Aside0.mk ((by rw [hg]; exact Nat.ne_of_gt (blk_lt (g := gb313) (o := .cells #[.slice A0_0 l0_0.length c0_0, .slice (some ad314) l0_1.length c0_1, .int .i64 a0_2] 27 (0, 0)) (by (with_reducible repeat (first | refine blk_drewN ?_ _ | refine blk_drew ?_ | refine blk_alloc ?_ _)); exact BK313.out)) : gb317 ≠ gb313)); clear HO_3; clear BK313; clear HB; have HO_3 := n0_; have BK313 := n1_; have HB := n2_; have BK317 := n3_; have GW317 := n4_; have GE317 := n5_; have NB313_317 := n6_; have NB317_313 := n7_; clear n0_ n1_ n2_ n3_ n4_ n5_ n6_ n7_; clear hb hbox hg; have hnb30 := NB317_313.out; have hnc30 := NB313_317.out; have hcz31_0 : w29.cell? ⟨gb317, 0, none⟩ = some (.int .i64 0) := (blk_cell BK317.out 0).trans rfl; have hcz31_1 : w29.cell? ⟨gb317, 1, none⟩ = some (.int .i64 0) := (blk_cell BK317.out 1).trans rfl; have hcz31_2 : w29.cell? ⟨gb317, 2, none⟩ = some (.int .i64 0) := (blk_cell BK317.out 2).trans rfl; have hcz31_3 : w29.cell? ⟨gb317, 3, none⟩ = some (.int .i64 0) := (blk_cell BK317.out 3).trans rfl; have hcz31_4 : w29.cell? ⟨gb317, 4, none⟩ = some (.int .i64 0) := (blk_cell BK317.out 4).trans rfl; have hcz31_5 : w29.cell? ⟨gb317, 5, none⟩ = some (.string (⟨#[]⟩ : ByteArray)) := (blk_cell BK317.out 5).trans rfl; have hcz31_6 : w29.cell? ⟨gb317, 6, none⟩ = some (.string (⟨#[]⟩ : ByteArray)) := (blk_cell BK317.out 6).trans rfl; have hcz31_7 : w29.cell? ⟨gb317, 7, none⟩ = some (.slice none 0 0) := (blk_cell BK317.out 7).trans rfl; have hcz31_8 : w29.cell? ⟨gb317, 8, none⟩ = some (.int .i64 0) := (blk_cell BK317.out 8).trans rfl; have hcz31_9 : w29.cell? ⟨gb317, 9, none⟩ = some (.int .i64 0) := (blk_cell BK317.out 9).trans rfl; have hfz31_0 := blk_frozen BK317.out 0; have hfz31_1 := blk_frozen BK317.out 1; have hfz31_2 := blk_frozen BK317.out 2; have hfz31_3 := blk_frozen BK317.out 3; have hfz31_4 := blk_frozen BK317.out 4; have hfz31_5 := blk_frozen BK317.out 5; have hfz31_6 := blk_frozen BK317.out 6; have hfz31_7 := blk_frozen BK317.out 7; have hfz31_8 := blk_frozen BK317.out 8; have hfz31_9 := blk_frozen BK317.out 9) | ((with_reducible refine gate_builtin (b := .append) (xs := #[.tmp 48, .tmp 52]) rfl ?_); at_builtin; refine Kd.R_append k48 (w0 := w) w.heap.size rfl (.tmp 48) (.tmp 52) 45 48 (.agg #[(.int .i64 0), (.int .i64 0), (.int .i64 0)]) 24 rfl Tryz.underlying45 info48 rfl (by decide) (by omega) u3 x3_2 (⟨x4_1, x5_2, (-1)⟩ : S48) [.int .i64 x4_1, .int .i64 x5_2, .int .i64 (-1)] (fun _ => True) (fun _ => False) rfl (by first | (go_simp; done) | (go_simp; rfl)) ?aP (fun _ hk => hk.elim) ?aF ?aO ?aB ?aS ?aL ?_; (case aP => exact k48_mkM _ _ _ (⟨x4_1, x5_2, (-1)⟩ : S48)); (case aB => exact (by repeat (first | (with_reducible first | exact HB.out | apply below_alloc | apply pw_below_drewN | apply below_drew1 | refine below_set ?_ GE313.out | refine below_set ?_ GE317.out) | exact HB.out))); (case aF => exact (fun _ _ => trivial)); (case aO => exact (by (with_reducible repeat (first | apply Kd.R_alloc | apply Kd.R_drewN | apply Kd.R_drew)); exact Kd.R_mono (Kd.R_far (p := ⟨gb317, 9, none⟩) (Kd.R_far (p := ⟨gb317, 8, none⟩) (Kd.R_far (p := ⟨gb317, 7, none⟩) (Kd.R_far (p := ⟨gb317, 6, none⟩) (Kd.R_far (p := ⟨gb317, 5, none⟩) (Kd.R_far (p := ⟨gb317, 4, none⟩) (Kd.R_far (p := ⟨gb317, 3, none⟩) (Kd.R_far (p := ⟨gb317, 2, none⟩) (Kd.R_far (p := ⟨gb317, 1, none⟩) (Kd.R_far (p := ⟨gb317, 0, none⟩) (Kd.R_types HO_3.out BK317.out (by decide)) (fun _ hk => hk.2) (.int .i64 ((rd_T81 ((rd_T73 l0_1 x4_1).f6) x5_2).f0))) (fun _ hk => hk.2) (.int .i64 ((rd_T81 ((rd_T73 l0_1 x4_1).f6) x5_2).f1))) (fun _ hk => hk.2) (.int .i64 ((rd_T81 ((rd_T73 l0_1 x4_1).f6) x5_2).f2))) (fun _ hk => hk.2) (.int .i64 ((rd_T81 ((rd_T73 l0_1 x4_1).f6) x5_2).f3))) (fun _ hk => hk.2) (.int .i64 ((rd_T81 ((rd_T73 l0_1 x4_1).f6) x5_2).f4))) (fun _ hk => hk.2) (.string ((rd_T81 ((rd_T73 l0_1 x4_1).f6) x5_2).f5))) (fun _ hk => hk.2) (.string ((rd_T81 ((rd_T73 l0_1 x4_1).f6) x5_2).f6))) (fun _ hk => hk.2) (.slice A316_7 ((rd_T81 ((rd_T73 l0_1 x4_1).f6) x5_2).f7).length c316_7)) (fun _ hk => hk.2) (.int .i64 ((rd_T81 ((rd_T73 l0_1 x4_1).f6) x5_2).f8))) (fun _ hk => hk.2) (.int .i64 ((rd_T81 ((rd_T73 l0_1 x4_1).f6) x5_2).f9))) (fun _ hk => trivial))); (case aS => exact (below_size (by repeat (first | (with_reducible first | exact HB.out | apply below_alloc | apply pw_below_drewN | apply below_drew1 | refine below_set ?_ GE313.out | refine below_set ?_ GE317.out) | exact HB.out)))); (case aL => have := LMc27.out; omega); intro v325 w32 ho hb hg hat; rw [← Ny324.out] at ho; have n0_ := Aside0.mk (blk_grown (g := gb313) (o := .cells #[.slice A0_0 l0_0.length c0_0, .slice (some ad314) l0_1.length c0_1, .int .i64 a0_2] 27 (0, 0)) (by (with_reducible repeat (first | refine blk_drewN ?_ _ | refine blk_drew ?_ | refine blk_alloc ?_ _)); refine blk_far ?_ NB313_317.out _; (with_reducible repeat (first | refine blk_drewN ?_ _ | refine blk_drew ?_ | refine blk_alloc ?_ _)); refine blk_far ?_ NB313_317.out _; (with_reducible repeat (first | refine blk_drewN ?_ _ | refine blk_drew ?_ | refine blk_alloc ?_ _)); refine blk_far ?_ NB313_317.out _; (with_reducible repeat (first | refine blk_drewN ?_ _ | refine blk_drew ?_ | refine blk_alloc ?_ _)); refine blk_far ?_ NB313_317.out _; (with_reducible repeat (first | refine blk_drewN ?_ _ | refine blk_drew ?_ | refine blk_alloc ?_ _)); refine blk_far ?_ NB313_317.out _; (with_reducible repeat (first | refine blk_drewN ?_ _ | refine blk_drew ?_ | refine blk_alloc ?_ _)); refine blk_far ?_ NB313_317.out _; (with_reducible repeat (first | refine blk_drewN ?_ _ | refine blk_drew ?_ | refine blk_alloc ?_ _)); refine blk_far ?_ NB313_317.out _; (with_reducible repeat (first | refine blk_drewN ?_ _ | refine blk_drew ?_ | refine blk_alloc ?_ _)); refine blk_far ?_ NB313_317.out _; (with_reducible repeat (first | refine blk_drewN ?_ _ | refine blk_drew ?_ | refine blk_alloc ?_ _)); refine blk_far ?_ NB313_317.out _; (with_reducible repeat (first | refine blk_drewN ?_ _ | refine blk_drew ?_ | refine blk_alloc ?_ _)); refine blk_far ?_ NB313_317.out _; (with_reducible repeat (first | refine blk_drewN ?_ _ | refine blk_drew ?_ | refine blk_alloc ?_ _)); exact BK313.out) hg (Kd.R_ne HO_3.out BK313.out (by decide))); have n1_ := Aside0.mk (blk_grown (g := gb317) (o := .cells #[.int .i64 ((rd_T81 ((rd_T73 l0_1 x4_1).f6) x5_2).f0), .int .i64 ((rd_T81 ((rd_T73 l0_1 x4_1).f6) x5_2).f1), .int .i64 ((rd_T81 ((rd_T73 l0_1 x4_1).f6) x5_2).f2), .int .i64 ((rd_T81 ((rd_T73 l0_1 x4_1).f6) x5_2).f3), .int .i64 ((rd_T81 ((rd_T73 l0_1 x4_1).f6) x5_2).f4), .string ((rd_T81 ((rd_T73 l0_1 x4_1).f6) x5_2).f5), .string ((rd_T81 ((rd_T73 l0_1 x4_1).f6) x5_2).f6), .slice A316_7 ((rd_T81 ((rd_T73 l0_1 x4_1).f6) x5_2).f7).length c316_7, .int .i64 ((rd_T81 ((rd_T73 l0_1 x4_1).f6) x5_2).f8), .int .i64 ((rd_T81 ((rd_T73 l0_1 x4_1).f6) x5_2).f9)] 81 (0, 0)) (by (with_reducible repeat (first | refine blk_drewN ?_ _ | refine blk_drew ?_ | refine blk_alloc ?_ _)); refine blk_put (cs := #[.int .i64 ((rd_T81 ((rd_T73 l0_1 x4_1).f6) x5_2).f0), .int .i64 ((rd_T81 ((rd_T73 l0_1 x4_1).f6) x5_2).f1), .int .i64 ((rd_T81 ((rd_T73 l0_1 x4_1).f6) x5_2).f2), .int .i64 ((rd_T81 ((rd_T73 l0_1 x4_1).f6) x5_2).f3), .int .i64 ((rd_T81 ((rd_T73 l0_1 x4_1).f6) x5_2).f4), .string ((rd_T81 ((rd_T73 l0_1 x4_1).f6) x5_2).f5), .string ((rd_T81 ((rd_T73 l0_1 x4_1).f6) x5_2).f6), .slice A316_7 ((rd_T81 ((rd_T73 l0_1 x4_1).f6) x5_2).f7).length c316_7, .int .i64 ((rd_T81 ((rd_T73 l0_1 x4_1).f6) x5_2).f8), .int .i64 0]) ?_ 9 _ rfl; (with_reducible repeat (first | refine blk_drewN ?_ _ | refine blk_drew ?_ | refine blk_alloc ?_ _)); refine blk_put (cs := #[.int .i64 ((rd_T81 ((rd_T73 l0_1 x4_1).f6) x5_2).f0), .int .i64 ((rd_T81 ((rd_T73 l0_1 x4_1).f6) x5_2).f1), .int .i64 ((rd_T81 ((rd_T73 l0_1 x4_1).f6) x5_2).f2), .int .i64 ((rd_T81 ((rd_T73 l0_1 x4_1).f6) x5_2).f3), .int .i64 ((rd_T81 ((rd_T73 l0_1 x4_1).f6) x5_2).f4), .string ((rd_T81 ((rd_T73 l0_1 x4_1).f6) x5_2).f5), .string ((rd_T81 ((rd_T73 l0_1 x4_1).f6) x5_2).f6), .slice A316_7 ((rd_T81 ((rd_T73 l0_1 x4_1).f6) x5_2).f7).length c316_7, .int .i64 0, .int .i64 0]) ?_ 8 _ rfl; (with_reducible repeat (first | refine blk_drewN ?_ _ | refine blk_drew ?_ | refine blk_alloc ?_ _)); refine blk_put (cs := #[.int .i64 ((rd_T81 ((rd_T73 l0_1 x4_1).f6) x5_2).f0), .int .i64 ((rd_T81 ((rd_T73 l0_1 x4_1).f6) x5_2).f1), .int .i64 ((rd_T81 ((rd_T73 l0_1 x4_1).f6) x5_2).f2), .int .i64 ((rd_T81 ((rd_T73 l0_1 x4_1).f6) x5_2).f3), .int .i64 ((rd_T81 ((rd_T73 l0_1 x4_1).f6) x5_2).f4), .string ((rd_T81 ((rd_T73 l0_1 x4_1).f6) x5_2).f5), .string ((rd_T81 ((rd_T73 l0_1 x4_1).f6) x5_2).f6), .slice none 0 0, .int .i64 0, .int .i64 0]) ?_ 7 _ rfl; (with_reducible repeat (first | refine blk_drewN ?_ _ | refine blk_drew ?_ | refine blk_alloc ?_ _)); refine blk_put (cs := #[.int .i64 ((rd_T81 ((rd_T73 l0_1 x4_1).f6) x5_2).f0), .int .i64 ((rd_T81 ((rd_T73 l0_1 x4_1).f6) x5_2).f1), .int .i64 ((rd_T81 ((rd_T73 l0_1 x4_1).f6) x5_2).f2), .int .i64 ((rd_T81 ((rd_T73 l0_1 x4_1).f6) x5_2).f3), .int .i64 ((rd_T81 ((rd_T73 l0_1 x4_1).f6) x5_2).f4), .string ((rd_T81 ((rd_T73 l0_1 x4_1).f6) x5_2).f5), .string (⟨#[]⟩ : ByteArray), .slice none 0 0, .int .i64 0, .int .i64 0]) ?_ 6 _ rfl; (with_reducible repeat (first | refine blk_drewN ?_ _ | refine blk_drew ?_ | refine blk_alloc ?_ _)); refine blk_put (cs := #[.int .i64 ((rd_T81 ((rd_T73 l0_1 x4_1).f6) x5_2).f0), .int .i64 ((rd_T81 ((rd_T73 l0_1 x4_1).f6) x5_2).f1), .int .i64 ((rd_T81 ((rd_T73 l0_1 x4_1).f6) x5_2).f2), .int .i64 ((rd_T81 ((rd_T73 l0_1 x4_1).f6) x5_2).f3), .int .i64 ((rd_T81 ((rd_T73 l0_1 x4_1).f6) x5_2).f4), .string (⟨#[]⟩ : ByteArray), .string (⟨#[]⟩ : ByteArray), .slice none 0 0, .int .i64 0, .int .i64 0]) ?_ 5 _ rfl; (with_reducible repeat (first | refine blk_drewN ?_ _ | refine blk_drew ?_ | refine blk_alloc ?_ _)); refine blk_put (cs := #[.int .i64 ((rd_T81 ((rd_T73 l0_1 x4_1).f6) x5_2).f0), .int .i64 ((rd_T81 ((rd_T73 l0_1 x4_1).f6) x5_2).f1), .int .i64 ((rd_T81 ((rd_T73 l0_1 x4_1).f6) x5_2).f2), .int .i64 ((rd_T81 ((rd_T73 l0_1 x4_1).f6) x5_2).f3), .int .i64 0, .string (⟨#[]⟩ : ByteArray), .string (⟨#[]⟩ : ByteArray), .slice none 0 0, .int .i64 0, .int .i64 0]) ?_ 4 _ rfl; (with_reducible repeat (first | refine blk_drewN ?_ _ | refine blk_drew ?_ | refine blk_alloc ?_ _)); refine blk_put (cs := #[.int .i64 ((rd_T81 ((rd_T73 l0_1 x4_1).f6) x5_2).f0), .int .i64 ((rd_T81 ((rd_T73 l0_1 x4_1).f6) x5_2).f1), .int .i64 ((rd_T81 ((rd_T73 l0_1 x4_1).f6) x5_2).f2), .int .i64 0, .int .i64 0, .string (⟨#[]⟩ : ByteArray), .string (⟨#[]⟩ : ByteArray), .slice none 0 0, .int .i64 0, .int .i64 0]) ?_ 3 _ rfl; (with_reducible repeat (first | refine blk_drewN ?_ _ | refine blk_drew ?_ | refine blk_alloc ?_ _)); refine blk_put (cs := #[.int .i64 ((rd_T81 ((rd_T73 l0_1 x4_1).f6) x5_2).f0), .int .i64 ((rd_T81 ((rd_T73 l0_1 x4_1).f6) x5_2).f1), .int .i64 0, .int .i64 0, .int .i64 0, .string (⟨#[]⟩ : ByteArray), .string (⟨#[]⟩ : ByteArray), .slice none 0 0, .int .i64 0, .int .i64 0]) ?_ 2 _ rfl; (with_reducible repeat (first | refine blk_drewN ?_ _ | refine blk_drew ?_ | refine blk_alloc ?_ _)); refine blk_put (cs := #[.int .i64 ((rd_T81 ((rd_T73 l0_1 x4_1).f6) x5_2).f0), .int .i64 0, .int .i64 0, .int .i64 0, .int .i64 0, .string (⟨#[]⟩ : ByteArray), .string (⟨#[]⟩ : ByteArray), .slice none 0 0, .int .i64 0, .int .i64 0]) ?_ 1 _ rfl; (with_reducible repeat (first | refine blk_drewN ?_ _ | refine blk_drew ?_ | refine blk_alloc ?_ _)); refine blk_put (cs := #[.int .i64 0, .int .i64 0, .int .i64 0, .int .i64 0, .int .i64 0, .string (⟨#[]⟩ : ByteArray), .string (⟨#[]⟩ : ByteArray), .slice none 0 0, .int .i64 0, .int .i64 0]) ?_ 0 _ rfl; (with_reducible repeat (first | refine blk_drewN ?_ _ | refine blk_drew ?_ | refine blk_alloc ?_ _)); exact BK317.out) hg (Kd.R_ne HO_3.out BK317.out (by decide))); have n2_ := Aside0.mk (hb); have n3_ := Aside0.mk (ho); clear BK313; clear BK317; clear HB; clear HO_3; have BK313 := n0_; have BK317 := n1_; have HB := n2_; have HO326 := n3_; clear n0_ n1_ n2_ n3_; clear ho hb hg hat))
                          go_roundg k2
                          case measure => have := HK1.out; have := HK2.out; omega
                          case rel => exact ⟨(y324), (wrap64 (x5_2 + 1)), (by first | rfl | (simp; done) | (simp [*]; done)), H', ⟨by have := HK1.out; have := HK2.out; omega⟩, ⟨by (with_reducible repeat (first | apply Kd.R_alloc | apply Kd.R_drewN | apply Kd.R_drew)); exact HO326.out⟩, ⟨by (with_reducible repeat (first | refine blk_drewN ?_ _ | refine blk_drew ?_ | refine blk_alloc ?_ _)); exact BK313.out⟩, ⟨by repeat (first | (with_reducible first | exact HB.out | apply below_alloc | apply pw_below_drewN | apply below_drew1 | refine below_set ?_ GE313.out | refine below_set ?_ GE317.out) | exact HB.out)⟩⟩
                        · rw [if_neg c27] at H
                          exact absurd H (by simp)
                      · rw [if_neg c26] at H
                        have c26b0 : (((rd_T81 ((rd_T73 l0_1 x4_1).f6) x5_2).f0) == 10) = false := beq_eq_false_iff_ne.mpr c26
                        have c26b1 : (((rd_T81 ((rd_T73 l0_1 x4_1).f6) x5_2).f0) != 10) = true := bne_iff_ne.mpr c26
                        have H' := Aside0.mk H
                        clear H
                        have hcz33_0 : wr.cell? ⟨gb313, 0, none⟩ = some (.slice A0_0 l0_0.length c0_0) := (blk_cell BK313.out 0).trans rfl
                        have hcz33_1 : wr.cell? ⟨gb313, 1, none⟩ = some (.slice A0_1 l0_1.length c0_1) := (blk_cell BK313.out 1).trans rfl
                        have hcz33_2 : wr.cell? ⟨gb313, 2, none⟩ = some (.int .i64 a0_2) := (blk_cell BK313.out 2).trans rfl
                        have hfz33_0 := blk_frozen BK313.out 0
                        have hfz33_1 := blk_frozen BK313.out 1
                        have hfz33_2 := blk_frozen BK313.out 2
                        have p314 : 0 ≤ (x4_1 : Int) := of_decide_eq_true (by first | (with_reducible assumption) | assumption)
                        have q314 : x4_1 < (l0_1.length : Int) := of_decide_eq_true (by first | (with_reducible assumption) | assumption)
                        obtain ⟨ad314, A314_4, c314_4, A314_6, c314_6, e314, hx314_0, hx314_1, hx314_2, hx314_3, hx314_4, hx314_5, hx314_6, hl314_4, hi314_4, hl314_6, hi314_6⟩ := at_T73 HR0_1.out x4_1 p314 q314
                        cases e314
                        replace hx314_0 := (HB.out.cell (World.block_lt_of_cell? w _ hx314_0)).trans hx314_0
                        replace hx314_1 := (HB.out.cell (World.block_lt_of_cell? w _ hx314_1)).trans hx314_1
                        replace hx314_2 := (HB.out.cell (World.block_lt_of_cell? w _ hx314_2)).trans hx314_2
                        replace hx314_3 := (HB.out.cell (World.block_lt_of_cell? w _ hx314_3)).trans hx314_3
                        replace hx314_4 := (HB.out.cell (World.block_lt_of_cell? w _ hx314_4)).trans hx314_4
                        replace hx314_5 := (HB.out.cell (World.block_lt_of_cell? w _ hx314_5)).trans hx314_5
                        replace hx314_6 := (HB.out.cell (World.block_lt_of_cell? w _ hx314_6)).trans hx314_6
                        have HR314_4 := Aside0.mk hi314_4
                        have HC314_4 := Aside0.mk hl314_4
                        clear hi314_4 hl314_4
                        have HR314_6 := Aside0.mk hi314_6
                        have HC314_6 := Aside0.mk hl314_6
                        clear hi314_6 hl314_6
                        replace p314 := eq_true p314
                        replace q314 := eq_true q314
                        have p315 : 0 ≤ (x4_1 : Int) := of_decide_eq_true (by first | (with_reducible assumption) | assumption)
                        have q315 : x4_1 < (l0_1.length : Int) := of_decide_eq_true (by first | (with_reducible assumption) | assumption)
                        obtain ⟨ad315, A315_4, c315_4, A315_6, c315_6, e315, hx315_0, hx315_1, hx315_2, hx315_3, hx315_4, hx315_5, hx315_6, hl315_4, hi315_4, hl315_6, hi315_6⟩ := at_T73 HR0_1.out x4_1 p315 q315
                        obtain rfl : ad314 = ad315 := (by injection e315)
                        replace hx315_0 := (HB.out.cell (World.block_lt_of_cell? w _ hx315_0)).trans hx315_0
                        replace hx315_1 := (HB.out.cell (World.block_lt_of_cell? w _ hx315_1)).trans hx315_1
                        replace hx315_2 := (HB.out.cell (World.block_lt_of_cell? w _ hx315_2)).trans hx315_2
                        replace hx315_3 := (HB.out.cell (World.block_lt_of_cell? w _ hx315_3)).trans hx315_3
                        replace hx315_4 := (HB.out.cell (World.block_lt_of_cell? w _ hx315_4)).trans hx315_4
                        replace hx315_5 := (HB.out.cell (World.block_lt_of_cell? w _ hx315_5)).trans hx315_5
                        replace hx315_6 := (HB.out.cell (World.block_lt_of_cell? w _ hx315_6)).trans hx315_6
                        have HR315_4 := Aside0.mk hi315_4
                        have HC315_4 := Aside0.mk hl315_4
                        clear hi315_4 hl315_4
                        have HR315_6 := Aside0.mk hi315_6
                        have HC315_6 := Aside0.mk hl315_6
                        clear hi315_6 hl315_6
                        replace p315 := eq_true p315
                        replace q315 := eq_true q315
                        have ea_ := Option.some.inj (hx314_4.symm.trans hx315_4)
                        injection ea_ with ea_ en_ ec_
                        subst ea_
                        subst ec_
                        clear en_
                        have ea_ := Option.some.inj (hx314_6.symm.trans hx315_6)
                        injection ea_ with ea_ en_ ec_
                        subst ea_
                        subst ec_
                        clear en_
                        have p316 : 0 ≤ (x5_2 : Int) := of_decide_eq_true (by first | (with_reducible assumption) | assumption)
                        have q316 : x5_2 < (((rd_T73 l0_1 x4_1).f6).length : Int) := of_decide_eq_true (by first | (with_reducible assumption) | assumption)
                        obtain ⟨ad316, A316_7, c316_7, e316, hx316_0, hx316_1, hx316_2, hx316_3, hx316_4, hx316_5, hx316_6, hx316_7, hx316_8, hx316_9, hl316_7, hi316_7⟩ := at_T81 HR315_6.out x5_2 p316 q316
                        cases e316
                        replace hx316_0 := (HB.out.cell (World.block_lt_of_cell? w _ hx316_0)).trans hx316_0
                        replace hx316_1 := (HB.out.cell (World.block_lt_of_cell? w _ hx316_1)).trans hx316_1
                        replace hx316_2 := (HB.out.cell (World.block_lt_of_cell? w _ hx316_2)).trans hx316_2
                        replace hx316_3 := (HB.out.cell (World.block_lt_of_cell? w _ hx316_3)).trans hx316_3
                        replace hx316_4 := (HB.out.cell (World.block_lt_of_cell? w _ hx316_4)).trans hx316_4
                        replace hx316_5 := (HB.out.cell (World.block_lt_of_cell? w _ hx316_5)).trans hx316_5
                        replace hx316_6 := (HB.out.cell (World.block_lt_of_cell? w _ hx316_6)).trans hx316_6
                        replace hx316_7 := (HB.out.cell (World.block_lt_of_cell? w _ hx316_7)).trans hx316_7
                        replace hx316_8 := (HB.out.cell (World.block_lt_of_cell? w _ hx316_8)).trans hx316_8
                        replace hx316_9 := (HB.out.cell (World.block_lt_of_cell? w _ hx316_9)).trans hx316_9
                        have HR316_7 := Aside0.mk hi316_7
                        have HC316_7 := Aside0.mk hl316_7
                        clear hi316_7 hl316_7
                        replace p316 := eq_true p316
                        replace q316 := eq_true q316
                        go_wp2_with (first | ((with_reducible refine gate_dst (N := 6) rfl ?_); refine box_event ?hg (N := 6) ?hd (cs := #[.int .i64 0, .int .i64 0, .int .i64 0, .int .i64 0, .int .i64 0, .string (⟨#[]⟩ : ByteArray), .string (⟨#[]⟩ : ByteArray), .slice none 0 0, .int .i64 0, .int .i64 0]) (t := 81) ?hr ?_; (case hd => rfl); (case hg => rfl); (case hr => first | (go_simp; done) | (go_simp; rfl)); intro gb317 hg w34 hbox hb; have n0_ := Aside0.mk (Kd.R_below (by (with_reducible repeat (first | apply Kd.R_alloc | apply Kd.R_drewN | apply Kd.R_drew)); exact HO_3.out) hb); have n1_ := Aside0.mk (blk_below (g := gb313) (o := .cells #[.slice A0_0 l0_0.length c0_0, .slice (some ad314) l0_1.length c0_1, .int .i64 a0_2] 27 (0, 0)) (by (with_reducible repeat (first | refine blk_drewN ?_ _ | refine blk_drew ?_ | refine blk_alloc ?_ _)); exact BK313.out) hb); have n2_ := Aside0.mk (below_step (by repeat (first | (with_reducible first | exact HB.out | apply below_alloc | apply pw_below_drewN | apply below_drew1 | refine below_set ?_ GE313.out) | exact HB.out)) hb); have n3_ := Aside0.mk (hbox); have n4_ := Aside0.mk ((by rw [hg]; exact (below_size (by repeat (first | (with_reducible first | exact HB.out | apply below_alloc | apply pw_below_drewN | apply below_drew1 | refine below_set ?_ GE313.out) | exact HB.out))) : w.heap.size ≤ gb317)); have n5_ := Aside0.mk ((by rw [hg]; exact (below_size (by repeat (first | (with_reducible first | exact HB.out | apply below_alloc | apply pw_below_drewN | apply below_drew1 | refine below_set ?_ GE313.out) | exact HB.out))) : w.heap.size ≤ gb317)); have n6_ := Aside0.mk ((by rw [hg]; exact Nat.ne_of_lt (blk_lt (g := gb313) (o := .cells #[.slice A0_0 l0_0.length c0_0, .slice (some ad314) l0_1.length c0_1, .int .i64 a0_2] 27 (0, 0)) (by (with_reducible repeat (first | refine blk_drewN ?_ _ | refine blk_drew ?_ | refine blk_alloc ?_ _)); exact BK313.out)) : gb313 ≠ gb317)); have n7_ := Aside0.mk ((by rw [hg]; exact Nat.ne_of_gt (blk_lt (g := gb313) (o := .cells #[.slice A0_0 l0_0.length c0_0, .slice (some ad314) l0_1.length c0_1, .int .i64 a0_2] 27 (0, 0)) (by (with_reducible repeat (first | refine blk_drewN ?_ _ | refine blk_drew ?_ | refine blk_alloc ?_ _)); exact BK313.out)) : gb317 ≠ gb313)); clear HO_3; clear BK313; clear HB; have HO_3 := n0_; have BK313 := n1_; have HB := n2_; have BK317 := n3_; have GW317 := n4_; have GE317 := n5_; have NB313_317 := n6_; have NB317_313 := n7_; clear n0_ n1_ n2_ n3_ n4_ n5_ n6_ n7_; clear hb hbox hg; have hnb35 := NB317_313.out; have hnc35 := NB313_317.out; have hcz36_0 : w34.cell? ⟨gb317, 0, none⟩ = some (.int .i64 0) := (blk_cell BK317.out 0).trans rfl; have hcz36_1 : w34.cell? ⟨gb317, 1, none⟩ = some (.int .i64 0) := (blk_cell BK317.out 1).trans rfl; have hcz36_2 : w34.cell? ⟨gb317, 2, none⟩ = some (.int .i64 0) := (blk_cell BK317.out 2).trans rfl; have hcz36_3 : w34.cell? ⟨gb317, 3, none⟩ = some (.int .i64 0) := (blk_cell BK317.out 3).trans rfl; have hcz36_4 : w34.cell? ⟨gb317, 4, none⟩ = some (.int .i64 0) := (blk_cell BK317.out 4).trans rfl; have hcz36_5 : w34.cell? ⟨gb317, 5, none⟩ = some (.string (⟨#[]⟩ : ByteArray)) := (blk_cell BK317.out 5).trans rfl; have hcz36_6 : w34.cell? ⟨gb317, 6, none⟩ = some (.string (⟨#[]⟩ : ByteArray)) := (blk_cell BK317.out 6).trans rfl; have hcz36_7 : w34.cell? ⟨gb317, 7, none⟩ = some (.slice none 0 0) := (blk_cell BK317.out 7).trans rfl; have hcz36_8 : w34.cell? ⟨gb317, 8, none⟩ = some (.int .i64 0) := (blk_cell BK317.out 8).trans rfl; have hcz36_9 : w34.cell? ⟨gb317, 9, none⟩ = some (.int .i64 0) := (blk_cell BK317.out 9).trans rfl; have hfz36_0 := blk_frozen BK317.out 0; have hfz36_1 := blk_frozen BK317.out 1; have hfz36_2 := blk_frozen BK317.out 2; have hfz36_3 := blk_frozen BK317.out 3; have hfz36_4 := blk_frozen BK317.out 4; have hfz36_5 := blk_frozen BK317.out 5; have hfz36_6 := blk_frozen BK317.out 6; have hfz36_7 := blk_frozen BK317.out 7; have hfz36_8 := blk_frozen BK317.out 8; have hfz36_9 := blk_frozen BK317.out 9))
                        go_roundg k2
                        case measure => have := HK1.out; have := HK2.out; omega
                        case rel => exact ⟨(x3_2), (wrap64 (x5_2 + 1)), (by first | rfl | (simp; done) | (simp [*]; done)), H', ⟨by have := HK1.out; have := HK2.out; omega⟩, ⟨by (with_reducible repeat (first | apply Kd.R_alloc | apply Kd.R_drewN | apply Kd.R_drew)); exact Kd.R_mono (Kd.R_far (p := ⟨gb317, 9, none⟩) (Kd.R_far (p := ⟨gb317, 8, none⟩) (Kd.R_far (p := ⟨gb317, 7, none⟩) (Kd.R_far (p := ⟨gb317, 6, none⟩) (Kd.R_far (p := ⟨gb317, 5, none⟩) (Kd.R_far (p := ⟨gb317, 4, none⟩) (Kd.R_far (p := ⟨gb317, 3, none⟩) (Kd.R_far (p := ⟨gb317, 2, none⟩) (Kd.R_far (p := ⟨gb317, 1, none⟩) (Kd.R_far (p := ⟨gb317, 0, none⟩) (Kd.R_types HO_3.out BK317.out (by decide)) (fun _ hk => hk.2) (.int .i64 ((rd_T81 ((rd_T73 l0_1 x4_1).f6) x5_2).f0))) (fun _ hk => hk.2) (.int .i64 ((rd_T81 ((rd_T73 l0_1 x4_1).f6) x5_2).f1))) (fun _ hk => hk.2) (.int .i64 ((rd_T81 ((rd_T73 l0_1 x4_1).f6) x5_2).f2))) (fun _ hk => hk.2) (.int .i64 ((rd_T81 ((rd_T73 l0_1 x4_1).f6) x5_2).f3))) (fun _ hk => hk.2) (.int .i64 ((rd_T81 ((rd_T73 l0_1 x4_1).f6) x5_2).f4))) (fun _ hk => hk.2) (.string ((rd_T81 ((rd_T73 l0_1 x4_1).f6) x5_2).f5))) (fun _ hk => hk.2) (.string ((rd_T81 ((rd_T73 l0_1 x4_1).f6) x5_2).f6))) (fun _ hk => hk.2) (.slice A316_7 ((rd_T81 ((rd_T73 l0_1 x4_1).f6) x5_2).f7).length c316_7)) (fun _ hk => hk.2) (.int .i64 ((rd_T81 ((rd_T73 l0_1 x4_1).f6) x5_2).f8))) (fun _ hk => hk.2) (.int .i64 ((rd_T81 ((rd_T73 l0_1 x4_1).f6) x5_2).f9))) (fun _ hk => trivial)⟩, ⟨by (with_reducible repeat (first | refine blk_drewN ?_ _ | refine blk_drew ?_ | refine blk_alloc ?_ _)); refine blk_far ?_ NB313_317.out _; (with_reducible repeat (first | refine blk_drewN ?_ _ | refine blk_drew ?_ | refine blk_alloc ?_ _)); refine blk_far ?_ NB313_317.out _; (with_reducible repeat (first | refine blk_drewN ?_ _ | refine blk_drew ?_ | refine blk_alloc ?_ _)); refine blk_far ?_ NB313_317.out _; (with_reducible repeat (first | refine blk_drewN ?_ _ | refine blk_drew ?_ | refine blk_alloc ?_ _)); refine blk_far ?_ NB313_317.out _; (with_reducible repeat (first | refine blk_drewN ?_ _ | refine blk_drew ?_ | refine blk_alloc ?_ _)); refine blk_far ?_ NB313_317.out _; (with_reducible repeat (first | refine blk_drewN ?_ _ | refine blk_drew ?_ | refine blk_alloc ?_ _)); refine blk_far ?_ NB313_317.out _; (with_reducible repeat (first | refine blk_drewN ?_ _ | refine blk_drew ?_ | refine blk_alloc ?_ _)); refine blk_far ?_ NB313_317.out _; (with_reducible repeat (first | refine blk_drewN ?_ _ | refine blk_drew ?_ | refine blk_alloc ?_ _)); refine blk_far ?_ NB313_317.out _; (with_reducible repeat (first | refine blk_drewN ?_ _ | refine blk_drew ?_ | refine blk_alloc ?_ _)); refine blk_far ?_ NB313_317.out _; (with_reducible repeat (first | refine blk_drewN ?_ _ | refine blk_drew ?_ | refine blk_alloc ?_ _)); refine blk_far ?_ NB313_317.out _; (with_reducible repeat (first | refine blk_drewN ?_ _ | refine blk_drew ?_ | refine blk_alloc ?_ _)); exact BK313.out⟩, ⟨by repeat (first | (with_reducible first | exact HB.out | apply below_alloc | apply pw_below_drewN | apply below_drew1 | refine below_set ?_ GE313.out | refine below_set ?_ GE317.out) | exact HB.out)⟩⟩
                  · rw [if_neg c8] at H
                    exact absurd H (by simp)
                · rw [if_neg c7] at H
                  have c7b0 : decide (x5_2 < (((rd_T73 l0_1 x4_1).f6).length : Int)) = false := decide_eq_false c7
                  clear c7
                  have H' := Aside0.mk H
                  clear H
                  have hcz37_0 : wr.cell? ⟨gb313, 0, none⟩ = some (.slice A0_0 l0_0.length c0_0) := (blk_cell BK313.out 0).trans rfl
                  have hcz37_1 : wr.cell? ⟨gb313, 1, none⟩ = some (.slice A0_1 l0_1.length c0_1) := (blk_cell BK313.out 1).trans rfl
                  have hcz37_2 : wr.cell? ⟨gb313, 2, none⟩ = some (.int .i64 a0_2) := (blk_cell BK313.out 2).trans rfl
                  have hfz37_0 := blk_frozen BK313.out 0
                  have hfz37_1 := blk_frozen BK313.out 1
                  have hfz37_2 := blk_frozen BK313.out 2
                  have p314 : 0 ≤ (x4_1 : Int) := of_decide_eq_true (by first | (with_reducible assumption) | assumption)
                  have q314 : x4_1 < (l0_1.length : Int) := of_decide_eq_true (by first | (with_reducible assumption) | assumption)
                  obtain ⟨ad314, A314_4, c314_4, A314_6, c314_6, e314, hx314_0, hx314_1, hx314_2, hx314_3, hx314_4, hx314_5, hx314_6, hl314_4, hi314_4, hl314_6, hi314_6⟩ := at_T73 HR0_1.out x4_1 p314 q314
                  cases e314
                  replace hx314_0 := (HB.out.cell (World.block_lt_of_cell? w _ hx314_0)).trans hx314_0
                  replace hx314_1 := (HB.out.cell (World.block_lt_of_cell? w _ hx314_1)).trans hx314_1
                  replace hx314_2 := (HB.out.cell (World.block_lt_of_cell? w _ hx314_2)).trans hx314_2
                  replace hx314_3 := (HB.out.cell (World.block_lt_of_cell? w _ hx314_3)).trans hx314_3
                  replace hx314_4 := (HB.out.cell (World.block_lt_of_cell? w _ hx314_4)).trans hx314_4
                  replace hx314_5 := (HB.out.cell (World.block_lt_of_cell? w _ hx314_5)).trans hx314_5
                  replace hx314_6 := (HB.out.cell (World.block_lt_of_cell? w _ hx314_6)).trans hx314_6
                  have HR314_4 := Aside0.mk hi314_4
                  have HC314_4 := Aside0.mk hl314_4
                  clear hi314_4 hl314_4
                  have HR314_6 := Aside0.mk hi314_6
                  have HC314_6 := Aside0.mk hl314_6
                  clear hi314_6 hl314_6
                  replace p314 := eq_true p314
                  replace q314 := eq_true q314
                  go_wp2
                  go_roundg k2
                  case measure => have := HK1.out; have := HK2.out; omega
                  case rel => exact ⟨(x3_2), (wrap64 (x4_1 + 1)), (by first | rfl | (simp; done) | (simp [*]; done)), H', ⟨by have := HK1.out; have := HK2.out; omega⟩, ⟨by (with_reducible repeat (first | apply Kd.R_alloc | apply Kd.R_drewN | apply Kd.R_drew)); exact HO_3.out⟩, ⟨by (with_reducible repeat (first | refine blk_drewN ?_ _ | refine blk_drew ?_ | refine blk_alloc ?_ _)); exact BK313.out⟩, ⟨by repeat (first | (with_reducible first | exact HB.out | apply below_alloc | apply pw_below_drewN | apply below_drew1 | refine below_set ?_ GE313.out) | exact HB.out)⟩⟩
              · rw [if_neg c6] at H
                exact absurd H (by simp)
            · rw [if_neg c5] at H
              exact absurd H (by simp)
      · rw [if_neg c3] at H
        have c3b0 : decide (x4_1 < (l0_1.length : Int)) = false := decide_eq_false c3
        clear c3
        obtain rfl := Option.some.inj H
        have hcz38_0 : wr.cell? ⟨gb313, 0, none⟩ = some (.slice A0_0 l0_0.length c0_0) := (blk_cell BK313.out 0).trans rfl
        have hcz38_1 : wr.cell? ⟨gb313, 1, none⟩ = some (.slice A0_1 l0_1.length c0_1) := (blk_cell BK313.out 1).trans rfl
        have hcz38_2 : wr.cell? ⟨gb313, 2, none⟩ = some (.int .i64 a0_2) := (blk_cell BK313.out 2).trans rfl
        have hfz38_0 := blk_frozen BK313.out 0
        have hfz38_1 := blk_frozen BK313.out 1
        have hfz38_2 := blk_frozen BK313.out 2
        go_wp2
        go_ret
        exact ⟨_, by first | rfl | (simp [errW_none, errW_some] <;> rfl) | (simp [*, errW_none, errW_some] <;> rfl), by (with_reducible repeat (first | apply Kd.R_alloc | apply Kd.R_drewN | apply Kd.R_drew)); exact HO_3.out, by repeat (first | (with_reducible first | exact HB.out | apply below_alloc | apply pw_below_drewN | apply below_drew1 | refine below_set ?_ GE313.out) | exact HB.out)⟩


end Go.Proofs.YtmocdgcjglmmjaaGreatDoor.Cx
