import Derived.Test.YtjpmlaehincmaaaDoorT0
/-! The reference: Returns (turned from a print). -/
namespace Go.Proofs.YtjpmlaehincmaaaDoor.Cx
open Go.RowKit Go.Proofs.YtjpmlaehincmaaaDoorW.PrintWords Go.Proofs.YtjpmlaehincmaaaDoorW.PrintLast Go.Proofs.YtjpmlaehincmaaaDoorW.PrintMore
attribute [local go_sem] max2_int min2_int max_two min_two max_three min_three max_four min_four   -- for this text's walks alone
set_option linter.unusedVariables false
set_option linter.unusedSimpArgs false

/-! ### dataflowref11_Returns: function 6 -/
mutual
def dataflowref11_Returns.l0 : Nat → List (S44) → Int → Option (Bool)
  | 0, _, _ => none
  | k + 1, x0, x3 => if x3 < (x0.length : Int) then (if 0 ≤ x3 then (if ((rd_T44 x0 x3).f0) = 8 then (dataflowref11_Returns.j1 k x0 x3 true ((rd_T44 x0 x3).f0) ((rd_T44 x0 x3).f1) ((rd_T44 x0 x3).f2) ((rd_T44 x0 x3).f3) ((rd_T44 x0 x3).f4) ((rd_T44 x0 x3).f5)) else (dataflowref11_Returns.j1 k x0 x3 (((rd_T44 x0 x3).f0) == 7) ((rd_T44 x0 x3).f0) ((rd_T44 x0 x3).f1) ((rd_T44 x0 x3).f2) ((rd_T44 x0 x3).f3) ((rd_T44 x0 x3).f4) ((rd_T44 x0 x3).f5))) else (none)) else (some false)
def dataflowref11_Returns.j1 : Nat → List (S44) → Int → Bool → Int → ByteArray → ByteArray → List (S47) → List (S44) → List (S44) → Option (Bool)
  | 0, _, _, _, _, _, _, _, _, _ => none
  | k + 1, x0, x3, x22, x107000, x107001, x107002, x107003, x107004, x107005 => if x22 = true then (some true) else (if x107000 = 4 then ((dataflowref11_Returns.f k x107004).bind fun t107 => (if t107 = true then ((dataflowref11_Returns.f k x107005).bind fun t108 => (if t108 = true then (some true) else (dataflowref11_Returns.l0 k x0 (wrap64 (x3 + 1))))) else (dataflowref11_Returns.l0 k x0 (wrap64 (x3 + 1))))) else (if x107000 = 6 then ((dataflowref11_Returns.f k x107004).bind fun t109 => (if t109 = true then ((dataflowref11_Returns.f k x107005).bind fun t110 => (if t110 = true then (some true) else (dataflowref11_Returns.l0 k x0 (wrap64 (x3 + 1))))) else (dataflowref11_Returns.l0 k x0 (wrap64 (x3 + 1))))) else (dataflowref11_Returns.l0 k x0 (wrap64 (x3 + 1)))))
def dataflowref11_Returns.f : Nat → List (S44) → Option (Bool)
  | 0, _ => none
  | k + 1, l0 => dataflowref11_Returns.l0 k l0 0
end
theorem dataflowref11_Returns.mono_l : ∀ k, (∀ y0, LeO (dataflowref11_Returns.f k y0) (dataflowref11_Returns.f (k + 1) y0)) ∧ (∀ y0 y1, LeO (dataflowref11_Returns.l0 k y0 y1) (dataflowref11_Returns.l0 (k + 1) y0 y1)) ∧ (∀ y0 y1 y2 y3 y4 y5 y6 y7 y8, LeO (dataflowref11_Returns.j1 k y0 y1 y2 y3 y4 y5 y6 y7 y8) (dataflowref11_Returns.j1 (k + 1) y0 y1 y2 y3 y4 y5 y6 y7 y8))
  | 0 => ⟨fun _ r h => by simp [dataflowref11_Returns.f] at h, fun _ _ r h => by simp [dataflowref11_Returns.l0] at h, fun _ _ _ _ _ _ _ _ _ r h => by simp [dataflowref11_Returns.j1] at h⟩
  | k + 1 => by
    obtain ⟨ih0, ih1, ih2⟩ := dataflowref11_Returns.mono_l k
    refine ⟨?_, ?_, ?_⟩
    · intro y0
      unfold dataflowref11_Returns.f
      repeat' first
      | (with_reducible exact ih0 _)
      | (with_reducible exact ih1 _ _)
      | (with_reducible exact ih2 _ _ _ _ _ _ _ _ _)
      | (with_reducible exact LeO.refl _)
      | (with_reducible exact LeO.none _)
      | (with_reducible refine LeO.ite ?_ ?_)
      | (with_reducible refine LeO.bind ?_ (fun _ => ?_))
      | exact ih0 _
      | exact ih1 _ _
      | exact ih2 _ _ _ _ _ _ _ _ _
      | exact LeO.none _
      | refine LeO.ite ?_ ?_
      | refine LeO.bind ?_ (fun _ => ?_)
    · intro y0 y1
      unfold dataflowref11_Returns.l0
      repeat' first
      | (with_reducible exact ih0 _)
      | (with_reducible exact ih1 _ _)
      | (with_reducible exact ih2 _ _ _ _ _ _ _ _ _)
      | (with_reducible exact LeO.refl _)
      | (with_reducible exact LeO.none _)
      | (with_reducible refine LeO.ite ?_ ?_)
      | (with_reducible refine LeO.bind ?_ (fun _ => ?_))
      | exact ih0 _
      | exact ih1 _ _
      | exact ih2 _ _ _ _ _ _ _ _ _
      | exact LeO.none _
      | refine LeO.ite ?_ ?_
      | refine LeO.bind ?_ (fun _ => ?_)
    · intro y0 y1 y2 y3 y4 y5 y6 y7 y8
      unfold dataflowref11_Returns.j1
      repeat' first
      | (with_reducible exact ih0 _)
      | (with_reducible exact ih1 _ _)
      | (with_reducible exact ih2 _ _ _ _ _ _ _ _ _)
      | (with_reducible exact LeO.refl _)
      | (with_reducible exact LeO.none _)
      | (with_reducible refine LeO.ite ?_ ?_)
      | (with_reducible refine LeO.bind ?_ (fun _ => ?_))
      | exact ih0 _
      | exact ih1 _ _
      | exact ih2 _ _ _ _ _ _ _ _ _
      | exact LeO.none _
      | refine LeO.ite ?_ ?_
      | refine LeO.bind ?_ (fun _ => ?_)
theorem dataflowref11_Returns.mono : ∀ a0 k, LeO (dataflowref11_Returns.f k a0) (dataflowref11_Returns.f (k + 1) a0) := by
  intro a0 k
  obtain ⟨ih0, ih1, ih2⟩ := dataflowref11_Returns.mono_l k
  exact ih0 a0
set_option maxHeartbeats 8000000 in
set_option maxRecDepth 100000 in
theorem dataflowref11_Returns.calls (k : Nat) : ∀ (A0 : Option Addr) (c0 : Nat) (l0 : List (S44)) (r : Bool) (w : World) (hr0 : Kd.C k44 w A0 l0.length l0) (hc0 : l0.length ≤ c0) (h : dataflowref11_Returns.f k l0 = some r),
    Calls Tryd.prog 6 #[.slice A0 l0.length c0] w fun e w' => e = .returned (.bool r) ∧ Below w.heap.size w w' := by
  induction k using Nat.strongRecOn with
  | _ k ih =>
  intro A0 c0 l0 r w hr0 hc0 h
  cases k with
  | zero => exact absurd h (by simp [dataflowref11_Returns.f])
  | succ k =>
  simp only [dataflowref11_Returns.f] at h
  have hu44 := Tryd.underlying44
  have HR0 := Aside0.mk hr0
  have HC0 := Aside0.mk hc0
  clear hr0 hc0
  have HB := Aside0.mk (Below.refl w.heap.size w)
  have H : (dataflowref11_Returns.l0 k l0 0) = some r := h
  clear h
  have H' := Aside0.mk H
  clear H
  go_enter Tryd.func6, Tryd.ntmps6
  go_wp2
  go_loopg [3] k (fun kq v3 w' => ∃ (x3_1 : Int), v3 = .int .i64 x3_1 ∧ Aside0 (dataflowref11_Returns.l0 kq l0 x3_1 = some r) ∧ Aside0 (kq ≤ k) ∧ Aside0 (Below w.heap.size w w'))
  case atStart => exact ⟨(0), (by first | rfl | (simp; done) | (simp [*]; done)), H', ⟨Nat.le_refl _⟩, ⟨by repeat (first | (with_reducible first | exact HB.out | apply below_alloc | apply pw_below_drewN | apply below_drew1) | exact HB.out)⟩⟩
  case round =>
    clear H'
    obtain ⟨x3_1, rfl, HA, HK1, HB⟩ := hrel
    cases gk with
    | zero => exact absurd HA.out (by simp [dataflowref11_Returns.l0])
    | succ k1 =>
      have H := HA.out
      clear HA
      simp only [dataflowref11_Returns.l0] at H
      by_cases c2 : x3_1 < (l0.length : Int)
      · rw [if_pos c2] at H
        have c2b0 : decide (x3_1 < (l0.length : Int)) = true := decide_eq_true c2
        clear c2
        by_cases c3 : 0 ≤ x3_1
        · rw [if_pos c3] at H
          have c3b0 : decide (0 ≤ x3_1) = true := decide_eq_true c3
          clear c3
          have HC4 := Aside0.mk H
          clear H
          have p105 : 0 ≤ (x3_1 : Int) := of_decide_eq_true (by first | (with_reducible assumption) | assumption)
          have q105 : x3_1 < (l0.length : Int) := of_decide_eq_true (by first | (with_reducible assumption) | assumption)
          obtain ⟨ad105, A105_3, c105_3, A105_4, c105_4, A105_5, c105_5, e105, hx105_0, hx105_1, hx105_2, hx105_3, hx105_4, hx105_5, hl105_3, hi105_3, hl105_4, hi105_4, hl105_5, hi105_5⟩ := at_T44 HR0.out x3_1 p105 q105
          cases e105
          replace hx105_0 := (HB.out.cell (World.block_lt_of_cell? w _ hx105_0)).trans hx105_0
          replace hx105_1 := (HB.out.cell (World.block_lt_of_cell? w _ hx105_1)).trans hx105_1
          replace hx105_2 := (HB.out.cell (World.block_lt_of_cell? w _ hx105_2)).trans hx105_2
          replace hx105_3 := (HB.out.cell (World.block_lt_of_cell? w _ hx105_3)).trans hx105_3
          replace hx105_4 := (HB.out.cell (World.block_lt_of_cell? w _ hx105_4)).trans hx105_4
          replace hx105_5 := (HB.out.cell (World.block_lt_of_cell? w _ hx105_5)).trans hx105_5
          have HR105_3 := Aside0.mk hi105_3
          have HC105_3 := Aside0.mk hl105_3
          clear hi105_3 hl105_3
          have HR105_4 := Aside0.mk hi105_4
          have HC105_4 := Aside0.mk hl105_4
          clear hi105_4 hl105_4
          have HR105_5 := Aside0.mk hi105_5
          have HC105_5 := Aside0.mk hl105_5
          clear hi105_5 hl105_5
          replace p105 := eq_true p105
          replace q105 := eq_true q105
          go_upto_region 5 with (first | ((with_reducible refine gate_dst (N := 4) rfl ?_); refine box_event ?hg (N := 4) ?hd (cs := #[.int .i64 0, .string (⟨#[]⟩ : ByteArray), .string (⟨#[]⟩ : ByteArray), .slice none 0 0, .slice none 0 0, .slice none 0 0]) (t := 44) ?hr ?_; (case hd => rfl); (case hg => rfl); (case hr => first | (go_simp; done) | (go_simp; rfl)); intro gb106 hg w5 hbox hb; have n0_ := Aside0.mk (below_step (by repeat (first | (with_reducible first | exact HB.out | apply below_alloc | apply pw_below_drewN | apply below_drew1) | exact HB.out)) hb); have n1_ := Aside0.mk (hbox); have n2_ := Aside0.mk ((by rw [hg]; exact (below_size (by repeat (first | (with_reducible first | exact HB.out | apply below_alloc | apply pw_below_drewN | apply below_drew1) | exact HB.out))) : w.heap.size ≤ gb106)); have n3_ := Aside0.mk ((by rw [hg]; exact (below_size (by repeat (first | (with_reducible first | exact HB.out | apply below_alloc | apply pw_below_drewN | apply below_drew1) | exact HB.out))) : w.heap.size ≤ gb106)); clear HB; have HB := n0_; have BK106 := n1_; have GW106 := n2_; have GE106 := n3_; clear n0_ n1_ n2_ n3_; clear hb hbox hg; have hcz6_0 : w5.cell? ⟨gb106, 0, none⟩ = some (.int .i64 0) := (blk_cell BK106.out 0).trans rfl; have hcz6_1 : w5.cell? ⟨gb106, 1, none⟩ = some (.string (⟨#[]⟩ : ByteArray)) := (blk_cell BK106.out 1).trans rfl; have hcz6_2 : w5.cell? ⟨gb106, 2, none⟩ = some (.string (⟨#[]⟩ : ByteArray)) := (blk_cell BK106.out 2).trans rfl; have hcz6_3 : w5.cell? ⟨gb106, 3, none⟩ = some (.slice none 0 0) := (blk_cell BK106.out 3).trans rfl; have hcz6_4 : w5.cell? ⟨gb106, 4, none⟩ = some (.slice none 0 0) := (blk_cell BK106.out 4).trans rfl; have hcz6_5 : w5.cell? ⟨gb106, 5, none⟩ = some (.slice none 0 0) := (blk_cell BK106.out 5).trans rfl; have hfz6_0 := blk_frozen BK106.out 0; have hfz6_1 := blk_frozen BK106.out 1; have hfz6_2 := blk_frozen BK106.out 2; have hfz6_3 := blk_frozen BK106.out 3; have hfz6_4 := blk_frozen BK106.out 4; have hfz6_5 := blk_frozen BK106.out 5))
          (try simp only [Act.put, List.setIfInBounds_toArray, List.set_cons_zero, List.set_cons_succ])
          go_cut [22] (fun v22 wc => ∃ (kq : Nat) (x22_3 : Bool), v22 = .bool x22_3 ∧ Aside0 (dataflowref11_Returns.j1 kq l0 x3_1 x22_3 ((rd_T44 l0 x3_1).f0) ((rd_T44 l0 x3_1).f1) ((rd_T44 l0 x3_1).f2) ((rd_T44 l0 x3_1).f3) ((rd_T44 l0 x3_1).f4) ((rd_T44 l0 x3_1).f5) = some r) ∧ Aside0 (kq ≤ k1) ∧ Aside0 (wc.heap[gb106]? = some (.cells #[.int .i64 ((rd_T44 l0 x3_1).f0), .string ((rd_T44 l0 x3_1).f1), .string ((rd_T44 l0 x3_1).f2), (.slice A105_3 ((rd_T44 l0 x3_1).f3).length c105_3), (.slice A105_4 ((rd_T44 l0 x3_1).f4).length c105_4), (.slice A105_5 ((rd_T44 l0 x3_1).f5).length c105_5)] 44 (0, 0))) ∧ Aside0 (Below w.heap.size w wc))
          case first =>
            have H := HC4.out
            clear HC4
            by_cases c7 : ((rd_T44 l0 x3_1).f0) = 8
            · rw [if_pos c7] at H
              have c7b0 : (((rd_T44 l0 x3_1).f0) == 8) = true := beq_iff_eq.mpr c7
              have c7b1 : (((rd_T44 l0 x3_1).f0) != 8) = false := bne_eq_false_iff_eq.mpr c7
              clear c7
              (first | rw [c7b0] | (simp only [i64_w, i32_w]; rw [c7b0]) | skip)
              have H' := Aside0.mk H
              clear H
              have hcz8_0 : w5.cell? ⟨gb106, 0, none⟩ = some (.int .i64 0) := (blk_cell BK106.out 0).trans rfl
              have hcz8_1 : w5.cell? ⟨gb106, 1, none⟩ = some (.string (⟨#[]⟩ : ByteArray)) := (blk_cell BK106.out 1).trans rfl
              have hcz8_2 : w5.cell? ⟨gb106, 2, none⟩ = some (.string (⟨#[]⟩ : ByteArray)) := (blk_cell BK106.out 2).trans rfl
              have hcz8_3 : w5.cell? ⟨gb106, 3, none⟩ = some (.slice none 0 0) := (blk_cell BK106.out 3).trans rfl
              have hcz8_4 : w5.cell? ⟨gb106, 4, none⟩ = some (.slice none 0 0) := (blk_cell BK106.out 4).trans rfl
              have hcz8_5 : w5.cell? ⟨gb106, 5, none⟩ = some (.slice none 0 0) := (blk_cell BK106.out 5).trans rfl
              have hfz8_0 := blk_frozen BK106.out 0
              have hfz8_1 := blk_frozen BK106.out 1
              have hfz8_2 := blk_frozen BK106.out 2
              have hfz8_3 := blk_frozen BK106.out 3
              have hfz8_4 := blk_frozen BK106.out 4
              have hfz8_5 := blk_frozen BK106.out 5
              go_wp2
              go_meet
              case rel => exact ⟨_, (true), (by first | rfl | (simp; done) | (simp [*]; done)), H', ⟨by have := HK1.out; first | omega | exact Nat.le_refl _⟩, ⟨by (with_reducible repeat (first | refine blk_drewN ?_ _ | refine blk_drew ?_ | refine blk_alloc ?_ _)); refine blk_put (cs := #[.int .i64 ((rd_T44 l0 x3_1).f0), .string ((rd_T44 l0 x3_1).f1), .string ((rd_T44 l0 x3_1).f2), .slice A105_3 ((rd_T44 l0 x3_1).f3).length c105_3, .slice A105_4 ((rd_T44 l0 x3_1).f4).length c105_4, .slice none 0 0]) ?_ 5 _ rfl; (with_reducible repeat (first | refine blk_drewN ?_ _ | refine blk_drew ?_ | refine blk_alloc ?_ _)); refine blk_put (cs := #[.int .i64 ((rd_T44 l0 x3_1).f0), .string ((rd_T44 l0 x3_1).f1), .string ((rd_T44 l0 x3_1).f2), .slice A105_3 ((rd_T44 l0 x3_1).f3).length c105_3, .slice none 0 0, .slice none 0 0]) ?_ 4 _ rfl; (with_reducible repeat (first | refine blk_drewN ?_ _ | refine blk_drew ?_ | refine blk_alloc ?_ _)); refine blk_put (cs := #[.int .i64 ((rd_T44 l0 x3_1).f0), .string ((rd_T44 l0 x3_1).f1), .string ((rd_T44 l0 x3_1).f2), .slice none 0 0, .slice none 0 0, .slice none 0 0]) ?_ 3 _ rfl; (with_reducible repeat (first | refine blk_drewN ?_ _ | refine blk_drew ?_ | refine blk_alloc ?_ _)); refine blk_put (cs := #[.int .i64 ((rd_T44 l0 x3_1).f0), .string ((rd_T44 l0 x3_1).f1), .string (⟨#[]⟩ : ByteArray), .slice none 0 0, .slice none 0 0, .slice none 0 0]) ?_ 2 _ rfl; (with_reducible repeat (first | refine blk_drewN ?_ _ | refine blk_drew ?_ | refine blk_alloc ?_ _)); refine blk_put (cs := #[.int .i64 ((rd_T44 l0 x3_1).f0), .string (⟨#[]⟩ : ByteArray), .string (⟨#[]⟩ : ByteArray), .slice none 0 0, .slice none 0 0, .slice none 0 0]) ?_ 1 _ rfl; (with_reducible repeat (first | refine blk_drewN ?_ _ | refine blk_drew ?_ | refine blk_alloc ?_ _)); refine blk_put (cs := #[.int .i64 0, .string (⟨#[]⟩ : ByteArray), .string (⟨#[]⟩ : ByteArray), .slice none 0 0, .slice none 0 0, .slice none 0 0]) ?_ 0 _ rfl; (with_reducible repeat (first | refine blk_drewN ?_ _ | refine blk_drew ?_ | refine blk_alloc ?_ _)); exact BK106.out⟩, ⟨by repeat (first | (with_reducible first | exact HB.out | apply below_alloc | apply pw_below_drewN | apply below_drew1 | refine below_set ?_ GE106.out) | exact HB.out)⟩⟩
            · rw [if_neg c7] at H
              have c7b0 : (((rd_T44 l0 x3_1).f0) == 8) = false := beq_eq_false_iff_ne.mpr c7
              have c7b1 : (((rd_T44 l0 x3_1).f0) != 8) = true := bne_iff_ne.mpr c7
              (first | rw [c7b0] | (simp only [i64_w, i32_w]; rw [c7b0]) | skip)
              have H' := Aside0.mk H
              clear H
              have hcz9_0 : w5.cell? ⟨gb106, 0, none⟩ = some (.int .i64 0) := (blk_cell BK106.out 0).trans rfl
              have hcz9_1 : w5.cell? ⟨gb106, 1, none⟩ = some (.string (⟨#[]⟩ : ByteArray)) := (blk_cell BK106.out 1).trans rfl
              have hcz9_2 : w5.cell? ⟨gb106, 2, none⟩ = some (.string (⟨#[]⟩ : ByteArray)) := (blk_cell BK106.out 2).trans rfl
              have hcz9_3 : w5.cell? ⟨gb106, 3, none⟩ = some (.slice none 0 0) := (blk_cell BK106.out 3).trans rfl
              have hcz9_4 : w5.cell? ⟨gb106, 4, none⟩ = some (.slice none 0 0) := (blk_cell BK106.out 4).trans rfl
              have hcz9_5 : w5.cell? ⟨gb106, 5, none⟩ = some (.slice none 0 0) := (blk_cell BK106.out 5).trans rfl
              have hfz9_0 := blk_frozen BK106.out 0
              have hfz9_1 := blk_frozen BK106.out 1
              have hfz9_2 := blk_frozen BK106.out 2
              have hfz9_3 := blk_frozen BK106.out 3
              have hfz9_4 := blk_frozen BK106.out 4
              have hfz9_5 := blk_frozen BK106.out 5
              go_wp2
              go_meet
              case rel => exact ⟨_, ((((rd_T44 l0 x3_1).f0) == 7)), (by first | rfl | (simp; done) | (simp [*]; done)), H', ⟨by have := HK1.out; first | omega | exact Nat.le_refl _⟩, ⟨by (with_reducible repeat (first | refine blk_drewN ?_ _ | refine blk_drew ?_ | refine blk_alloc ?_ _)); refine blk_put (cs := #[.int .i64 ((rd_T44 l0 x3_1).f0), .string ((rd_T44 l0 x3_1).f1), .string ((rd_T44 l0 x3_1).f2), .slice A105_3 ((rd_T44 l0 x3_1).f3).length c105_3, .slice A105_4 ((rd_T44 l0 x3_1).f4).length c105_4, .slice none 0 0]) ?_ 5 _ rfl; (with_reducible repeat (first | refine blk_drewN ?_ _ | refine blk_drew ?_ | refine blk_alloc ?_ _)); refine blk_put (cs := #[.int .i64 ((rd_T44 l0 x3_1).f0), .string ((rd_T44 l0 x3_1).f1), .string ((rd_T44 l0 x3_1).f2), .slice A105_3 ((rd_T44 l0 x3_1).f3).length c105_3, .slice none 0 0, .slice none 0 0]) ?_ 4 _ rfl; (with_reducible repeat (first | refine blk_drewN ?_ _ | refine blk_drew ?_ | refine blk_alloc ?_ _)); refine blk_put (cs := #[.int .i64 ((rd_T44 l0 x3_1).f0), .string ((rd_T44 l0 x3_1).f1), .string ((rd_T44 l0 x3_1).f2), .slice none 0 0, .slice none 0 0, .slice none 0 0]) ?_ 3 _ rfl; (with_reducible repeat (first | refine blk_drewN ?_ _ | refine blk_drew ?_ | refine blk_alloc ?_ _)); refine blk_put (cs := #[.int .i64 ((rd_T44 l0 x3_1).f0), .string ((rd_T44 l0 x3_1).f1), .string (⟨#[]⟩ : ByteArray), .slice none 0 0, .slice none 0 0, .slice none 0 0]) ?_ 2 _ rfl; (with_reducible repeat (first | refine blk_drewN ?_ _ | refine blk_drew ?_ | refine blk_alloc ?_ _)); refine blk_put (cs := #[.int .i64 ((rd_T44 l0 x3_1).f0), .string (⟨#[]⟩ : ByteArray), .string (⟨#[]⟩ : ByteArray), .slice none 0 0, .slice none 0 0, .slice none 0 0]) ?_ 1 _ rfl; (with_reducible repeat (first | refine blk_drewN ?_ _ | refine blk_drew ?_ | refine blk_alloc ?_ _)); refine blk_put (cs := #[.int .i64 0, .string (⟨#[]⟩ : ByteArray), .string (⟨#[]⟩ : ByteArray), .slice none 0 0, .slice none 0 0, .slice none 0 0]) ?_ 0 _ rfl; (with_reducible repeat (first | refine blk_drewN ?_ _ | refine blk_drew ?_ | refine blk_alloc ?_ _)); exact BK106.out⟩, ⟨by repeat (first | (with_reducible first | exact HB.out | apply below_alloc | apply pw_below_drewN | apply below_drew1 | refine below_set ?_ GE106.out) | exact HB.out)⟩⟩
          case rest =>
            clear HC4
            try clear c1
            try clear p1
            try clear q1
            try clear hx1
            try clear c2
            try clear c2b0
            try clear p2
            try clear c3
            try clear c3b0
            try clear c6
            try clear c7
            try clear c7b0
            try clear c7b1
            try clear hcz6_0
            try clear hcz6_1
            try clear hcz6_2
            try clear hcz6_3
            try clear hcz6_4
            try clear hcz6_5
            try clear hcz8_0
            try clear hcz8_1
            try clear hcz8_2
            try clear hcz8_3
            try clear hcz8_4
            try clear hcz8_5
            try clear hcz9_0
            try clear hcz9_1
            try clear hcz9_2
            try clear hcz9_3
            try clear hcz9_4
            try clear hcz9_5
            try clear hfz6_0
            try clear hfz6_1
            try clear hfz6_2
            try clear hfz6_3
            try clear hfz6_4
            try clear hfz6_5
            try clear hfz8_0
            try clear hfz8_1
            try clear hfz8_2
            try clear hfz8_3
            try clear hfz8_4
            try clear hfz8_5
            try clear hfz9_0
            try clear hfz9_1
            try clear hfz9_2
            try clear hfz9_3
            try clear hfz9_4
            try clear hfz9_5
            try clear hx105_0
            try clear hx105_1
            try clear hx105_2
            try clear hx105_3
            try clear hx105_4
            try clear hx105_5
            try clear p105
            try clear q105
            obtain ⟨kq, x22_3, rfl, HA, HJ3, BK106, HB⟩ := hcut
            cases kq with
            | zero => exact absurd HA.out (by simp [dataflowref11_Returns.j1])
            | succ kj3 =>
              have H := HA.out
              clear HA
              simp only [dataflowref11_Returns.j1] at H
              by_cases c10 : x22_3 = true
              · subst c10
                have H1 : (some true) = some r := by rw [if_pos rfl] at H; exact H
                clear H
                have H := H1
                clear H1
                obtain rfl := Option.some.inj H
                go_wp2
                go_ret
                exact ⟨by first | rfl | (simp [errW_none, errW_some] <;> rfl) | (simp [*, errW_none, errW_some] <;> rfl), by repeat (first | (with_reducible first | exact HB.out | apply below_alloc | apply pw_below_drewN | apply below_drew1 | refine below_set ?_ GE106.out) | exact HB.out)⟩
              · replace c10 := Bool.eq_false_iff.mpr c10
                subst c10
                have H1 : (if ((rd_T44 l0 x3_1).f0) = 4 then ((dataflowref11_Returns.f kj3 ((rd_T44 l0 x3_1).f4)).bind fun t107 => (if t107 = true then ((dataflowref11_Returns.f kj3 ((rd_T44 l0 x3_1).f5)).bind fun t108 => (if t108 = true then (some true) else (dataflowref11_Returns.l0 kj3 l0 (wrap64 (x3_1 + 1))))) else (dataflowref11_Returns.l0 kj3 l0 (wrap64 (x3_1 + 1))))) else (if ((rd_T44 l0 x3_1).f0) = 6 then ((dataflowref11_Returns.f kj3 ((rd_T44 l0 x3_1).f4)).bind fun t109 => (if t109 = true then ((dataflowref11_Returns.f kj3 ((rd_T44 l0 x3_1).f5)).bind fun t110 => (if t110 = true then (some true) else (dataflowref11_Returns.l0 kj3 l0 (wrap64 (x3_1 + 1))))) else (dataflowref11_Returns.l0 kj3 l0 (wrap64 (x3_1 + 1))))) else (dataflowref11_Returns.l0 kj3 l0 (wrap64 (x3_1 + 1))))) = some r := by rw [if_neg (show ¬ (false = true) by decide)] at H; exact H
                clear H
                have H := H1
                clear H1
                by_cases c11 : ((rd_T44 l0 x3_1).f0) = 4
                · rw [if_pos c11] at H
                  have c11b0 : (((rd_T44 l0 x3_1).f0) == 4) = true := beq_iff_eq.mpr c11
                  have c11b1 : (((rd_T44 l0 x3_1).f0) != 4) = false := bne_eq_false_iff_eq.mpr c11
                  clear c11
                  replace H := Option.bind_eq_some_iff.mp H
                  obtain ⟨t107, A120, H⟩ := H
                  replace H : (if t107 = true then ((dataflowref11_Returns.f kj3 ((rd_T44 l0 x3_1).f5)).bind fun t108 => (if t108 = true then (some true) else (dataflowref11_Returns.l0 kj3 l0 (wrap64 (x3_1 + 1))))) else (dataflowref11_Returns.l0 kj3 l0 (wrap64 (x3_1 + 1)))) = some r := H
                  have A12 := Aside0.mk A120
                  clear A120
                  by_cases c13 : t107 = true
                  · subst c13
                    have H1 : ((dataflowref11_Returns.f kj3 ((rd_T44 l0 x3_1).f5)).bind fun t108 => (if t108 = true then (some true) else (dataflowref11_Returns.l0 kj3 l0 (wrap64 (x3_1 + 1))))) = some r := by rw [if_pos rfl] at H; exact H
                    clear H
                    have H := H1
                    clear H1
                    replace H := Option.bind_eq_some_iff.mp H
                    obtain ⟨t108, A140, H⟩ := H
                    replace H : (if t108 = true then (some true) else (dataflowref11_Returns.l0 kj3 l0 (wrap64 (x3_1 + 1)))) = some r := H
                    have A14 := Aside0.mk A140
                    clear A140
                    by_cases c15 : t108 = true
                    · subst c15
                      have H1 : (some true) = some r := by rw [if_pos rfl] at H; exact H
                      clear H
                      have H := H1
                      clear H1
                      obtain rfl := Option.some.inj H
                      have hcz16_0 : wc.cell? ⟨gb106, 0, none⟩ = some (.int .i64 ((rd_T44 l0 x3_1).f0)) := (blk_cell BK106.out 0).trans rfl
                      have hcz16_1 : wc.cell? ⟨gb106, 1, none⟩ = some (.string ((rd_T44 l0 x3_1).f1)) := (blk_cell BK106.out 1).trans rfl
                      have hcz16_2 : wc.cell? ⟨gb106, 2, none⟩ = some (.string ((rd_T44 l0 x3_1).f2)) := (blk_cell BK106.out 2).trans rfl
                      have hcz16_3 : wc.cell? ⟨gb106, 3, none⟩ = some (.slice A105_3 ((rd_T44 l0 x3_1).f3).length c105_3) := (blk_cell BK106.out 3).trans rfl
                      have hcz16_4 : wc.cell? ⟨gb106, 4, none⟩ = some (.slice A105_4 ((rd_T44 l0 x3_1).f4).length c105_4) := (blk_cell BK106.out 4).trans rfl
                      have hcz16_5 : wc.cell? ⟨gb106, 5, none⟩ = some (.slice A105_5 ((rd_T44 l0 x3_1).f5).length c105_5) := (blk_cell BK106.out 5).trans rfl
                      have hfz16_0 := blk_frozen BK106.out 0
                      have hfz16_1 := blk_frozen BK106.out 1
                      have hfz16_2 := blk_frozen BK106.out 2
                      have hfz16_3 := blk_frozen BK106.out 3
                      have hfz16_4 := blk_frozen BK106.out 4
                      have hfz16_5 := blk_frozen BK106.out 5
                      go_wp2_with (first | (go_at_call 6; (with_reducible refine (ih kj3 (by have := HK1.out; have := HJ3.out; omega) _ _ ((rd_T44 l0 x3_1).f4) true _ ?side1 ?side2 A12.out).mono ?_); (case side1 => repeat (first | exact (Kd.C_below HR105_4.out HB.out) | (with_reducible refine Kd.C_alloc ?_ _) | (with_reducible refine Kd.C_drewN ?_ _) | (with_reducible refine Kd.C_drew ?_))); (case side2 => exact HC105_4.out); rintro e w17 ⟨rfl, hb⟩; have n0_ := Aside0.mk (blk_below (g := gb106) (o := .cells #[.int .i64 ((rd_T44 l0 x3_1).f0), .string ((rd_T44 l0 x3_1).f1), .string ((rd_T44 l0 x3_1).f2), .slice A105_3 ((rd_T44 l0 x3_1).f3).length c105_3, .slice A105_4 ((rd_T44 l0 x3_1).f4).length c105_4, .slice A105_5 ((rd_T44 l0 x3_1).f5).length c105_5] 44 (0, 0)) (by (with_reducible repeat (first | refine blk_drewN ?_ _ | refine blk_drew ?_ | refine blk_alloc ?_ _)); exact BK106.out) hb); have n1_ := Aside0.mk (below_step (by repeat (first | (with_reducible first | exact HB.out | apply below_alloc | apply pw_below_drewN | apply below_drew1 | refine below_set ?_ GE106.out) | exact HB.out)) hb); clear BK106; clear HB; have BK106 := n0_; have HB := n1_; clear n0_ n1_; (try clear hb); (try clear hb2); (try clear hk); (try clear hi); have hcz18_0 : w17.cell? ⟨gb106, 0, none⟩ = some (.int .i64 ((rd_T44 l0 x3_1).f0)) := (blk_cell BK106.out 0).trans rfl; have hcz18_1 : w17.cell? ⟨gb106, 1, none⟩ = some (.string ((rd_T44 l0 x3_1).f1)) := (blk_cell BK106.out 1).trans rfl; have hcz18_2 : w17.cell? ⟨gb106, 2, none⟩ = some (.string ((rd_T44 l0 x3_1).f2)) := (blk_cell BK106.out 2).trans rfl; have hcz18_3 : w17.cell? ⟨gb106, 3, none⟩ = some (.slice A105_3 ((rd_T44 l0 x3_1).f3).length c105_3) := (blk_cell BK106.out 3).trans rfl; have hcz18_4 : w17.cell? ⟨gb106, 4, none⟩ = some (.slice A105_4 ((rd_T44 l0 x3_1).f4).length c105_4) := (blk_cell BK106.out 4).trans rfl; have hcz18_5 : w17.cell? ⟨gb106, 5, none⟩ = some (.slice A105_5 ((rd_T44 l0 x3_1).f5).length c105_5) := (blk_cell BK106.out 5).trans rfl; have hfz18_0 := blk_frozen BK106.out 0; have hfz18_1 := blk_frozen BK106.out 1; have hfz18_2 := blk_frozen BK106.out 2; have hfz18_3 := blk_frozen BK106.out 3; have hfz18_4 := blk_frozen BK106.out 4; have hfz18_5 := blk_frozen BK106.out 5) | (go_at_call 6; (with_reducible refine (ih kj3 (by have := HK1.out; have := HJ3.out; omega) _ _ ((rd_T44 l0 x3_1).f5) true _ ?side1 ?side2 A14.out).mono ?_); (case side1 => repeat (first | exact (Kd.C_below HR105_5.out HB.out) | (with_reducible refine Kd.C_alloc ?_ _) | (with_reducible refine Kd.C_drewN ?_ _) | (with_reducible refine Kd.C_drew ?_))); (case side2 => exact HC105_5.out); rintro e w19 ⟨rfl, hb⟩; have n0_ := Aside0.mk (blk_below (g := gb106) (o := .cells #[.int .i64 ((rd_T44 l0 x3_1).f0), .string ((rd_T44 l0 x3_1).f1), .string ((rd_T44 l0 x3_1).f2), .slice A105_3 ((rd_T44 l0 x3_1).f3).length c105_3, .slice A105_4 ((rd_T44 l0 x3_1).f4).length c105_4, .slice A105_5 ((rd_T44 l0 x3_1).f5).length c105_5] 44 (0, 0)) (by (with_reducible repeat (first | refine blk_drewN ?_ _ | refine blk_drew ?_ | refine blk_alloc ?_ _)); exact BK106.out) hb); have n1_ := Aside0.mk (below_step (by repeat (first | (with_reducible first | exact HB.out | apply below_alloc | apply pw_below_drewN | apply below_drew1 | refine below_set ?_ GE106.out) | exact HB.out)) hb); clear BK106; clear HB; have BK106 := n0_; have HB := n1_; clear n0_ n1_; (try clear hb); (try clear hb2); (try clear hk); (try clear hi)))
                      go_ret
                      exact ⟨by first | rfl | (simp [errW_none, errW_some] <;> rfl) | (simp [*, errW_none, errW_some] <;> rfl), by repeat (first | (with_reducible first | exact HB.out | apply below_alloc | apply pw_below_drewN | apply below_drew1 | refine below_set ?_ GE106.out) | exact HB.out)⟩
                    · replace c15 := Bool.eq_false_iff.mpr c15
                      subst c15
                      have H1 : (dataflowref11_Returns.l0 kj3 l0 (wrap64 (x3_1 + 1))) = some r := by rw [if_neg (show ¬ (false = true) by decide)] at H; exact H
                      clear H
                      have H := H1
                      clear H1
                      have H' := Aside0.mk H
                      clear H
                      have hcz20_0 : wc.cell? ⟨gb106, 0, none⟩ = some (.int .i64 ((rd_T44 l0 x3_1).f0)) := (blk_cell BK106.out 0).trans rfl
                      have hcz20_1 : wc.cell? ⟨gb106, 1, none⟩ = some (.string ((rd_T44 l0 x3_1).f1)) := (blk_cell BK106.out 1).trans rfl
                      have hcz20_2 : wc.cell? ⟨gb106, 2, none⟩ = some (.string ((rd_T44 l0 x3_1).f2)) := (blk_cell BK106.out 2).trans rfl
                      have hcz20_3 : wc.cell? ⟨gb106, 3, none⟩ = some (.slice A105_3 ((rd_T44 l0 x3_1).f3).length c105_3) := (blk_cell BK106.out 3).trans rfl
                      have hcz20_4 : wc.cell? ⟨gb106, 4, none⟩ = some (.slice A105_4 ((rd_T44 l0 x3_1).f4).length c105_4) := (blk_cell BK106.out 4).trans rfl
                      have hcz20_5 : wc.cell? ⟨gb106, 5, none⟩ = some (.slice A105_5 ((rd_T44 l0 x3_1).f5).length c105_5) := (blk_cell BK106.out 5).trans rfl
                      have hfz20_0 := blk_frozen BK106.out 0
                      have hfz20_1 := blk_frozen BK106.out 1
                      have hfz20_2 := blk_frozen BK106.out 2
                      have hfz20_3 := blk_frozen BK106.out 3
                      have hfz20_4 := blk_frozen BK106.out 4
                      have hfz20_5 := blk_frozen BK106.out 5
                      go_wp2_with (first | (go_at_call 6; (with_reducible refine (ih kj3 (by have := HK1.out; have := HJ3.out; omega) _ _ ((rd_T44 l0 x3_1).f4) true _ ?side1 ?side2 A12.out).mono ?_); (case side1 => repeat (first | exact (Kd.C_below HR105_4.out HB.out) | (with_reducible refine Kd.C_alloc ?_ _) | (with_reducible refine Kd.C_drewN ?_ _) | (with_reducible refine Kd.C_drew ?_))); (case side2 => exact HC105_4.out); rintro e w21 ⟨rfl, hb⟩; have n0_ := Aside0.mk (blk_below (g := gb106) (o := .cells #[.int .i64 ((rd_T44 l0 x3_1).f0), .string ((rd_T44 l0 x3_1).f1), .string ((rd_T44 l0 x3_1).f2), .slice A105_3 ((rd_T44 l0 x3_1).f3).length c105_3, .slice A105_4 ((rd_T44 l0 x3_1).f4).length c105_4, .slice A105_5 ((rd_T44 l0 x3_1).f5).length c105_5] 44 (0, 0)) (by (with_reducible repeat (first | refine blk_drewN ?_ _ | refine blk_drew ?_ | refine blk_alloc ?_ _)); exact BK106.out) hb); have n1_ := Aside0.mk (below_step (by repeat (first | (with_reducible first | exact HB.out | apply below_alloc | apply pw_below_drewN | apply below_drew1 | refine below_set ?_ GE106.out) | exact HB.out)) hb); clear BK106; clear HB; have BK106 := n0_; have HB := n1_; clear n0_ n1_; (try clear hb); (try clear hb2); (try clear hk); (try clear hi); have hcz22_0 : w21.cell? ⟨gb106, 0, none⟩ = some (.int .i64 ((rd_T44 l0 x3_1).f0)) := (blk_cell BK106.out 0).trans rfl; have hcz22_1 : w21.cell? ⟨gb106, 1, none⟩ = some (.string ((rd_T44 l0 x3_1).f1)) := (blk_cell BK106.out 1).trans rfl; have hcz22_2 : w21.cell? ⟨gb106, 2, none⟩ = some (.string ((rd_T44 l0 x3_1).f2)) := (blk_cell BK106.out 2).trans rfl; have hcz22_3 : w21.cell? ⟨gb106, 3, none⟩ = some (.slice A105_3 ((rd_T44 l0 x3_1).f3).length c105_3) := (blk_cell BK106.out 3).trans rfl; have hcz22_4 : w21.cell? ⟨gb106, 4, none⟩ = some (.slice A105_4 ((rd_T44 l0 x3_1).f4).length c105_4) := (blk_cell BK106.out 4).trans rfl; have hcz22_5 : w21.cell? ⟨gb106, 5, none⟩ = some (.slice A105_5 ((rd_T44 l0 x3_1).f5).length c105_5) := (blk_cell BK106.out 5).trans rfl; have hfz22_0 := blk_frozen BK106.out 0; have hfz22_1 := blk_frozen BK106.out 1; have hfz22_2 := blk_frozen BK106.out 2; have hfz22_3 := blk_frozen BK106.out 3; have hfz22_4 := blk_frozen BK106.out 4; have hfz22_5 := blk_frozen BK106.out 5) | (go_at_call 6; (with_reducible refine (ih kj3 (by have := HK1.out; have := HJ3.out; omega) _ _ ((rd_T44 l0 x3_1).f5) false _ ?side1 ?side2 A14.out).mono ?_); (case side1 => repeat (first | exact (Kd.C_below HR105_5.out HB.out) | (with_reducible refine Kd.C_alloc ?_ _) | (with_reducible refine Kd.C_drewN ?_ _) | (with_reducible refine Kd.C_drew ?_))); (case side2 => exact HC105_5.out); rintro e w23 ⟨rfl, hb⟩; have n0_ := Aside0.mk (blk_below (g := gb106) (o := .cells #[.int .i64 ((rd_T44 l0 x3_1).f0), .string ((rd_T44 l0 x3_1).f1), .string ((rd_T44 l0 x3_1).f2), .slice A105_3 ((rd_T44 l0 x3_1).f3).length c105_3, .slice A105_4 ((rd_T44 l0 x3_1).f4).length c105_4, .slice A105_5 ((rd_T44 l0 x3_1).f5).length c105_5] 44 (0, 0)) (by (with_reducible repeat (first | refine blk_drewN ?_ _ | refine blk_drew ?_ | refine blk_alloc ?_ _)); exact BK106.out) hb); have n1_ := Aside0.mk (below_step (by repeat (first | (with_reducible first | exact HB.out | apply below_alloc | apply pw_below_drewN | apply below_drew1 | refine below_set ?_ GE106.out) | exact HB.out)) hb); clear BK106; clear HB; have BK106 := n0_; have HB := n1_; clear n0_ n1_; (try clear hb); (try clear hb2); (try clear hk); (try clear hi)))
                      go_roundg kj3
                      case measure => have := HK1.out; have := HJ3.out; omega
                      case rel => exact ⟨(wrap64 (x3_1 + 1)), (by first | rfl | (simp; done) | (simp [*]; done)), H', ⟨by have := HK1.out; have := HJ3.out; omega⟩, ⟨by repeat (first | (with_reducible first | exact HB.out | apply below_alloc | apply pw_below_drewN | apply below_drew1 | refine below_set ?_ GE106.out) | exact HB.out)⟩⟩
                  · replace c13 := Bool.eq_false_iff.mpr c13
                    subst c13
                    have H1 : (dataflowref11_Returns.l0 kj3 l0 (wrap64 (x3_1 + 1))) = some r := by rw [if_neg (show ¬ (false = true) by decide)] at H; exact H
                    clear H
                    have H := H1
                    clear H1
                    have H' := Aside0.mk H
                    clear H
                    have hcz24_0 : wc.cell? ⟨gb106, 0, none⟩ = some (.int .i64 ((rd_T44 l0 x3_1).f0)) := (blk_cell BK106.out 0).trans rfl
                    have hcz24_1 : wc.cell? ⟨gb106, 1, none⟩ = some (.string ((rd_T44 l0 x3_1).f1)) := (blk_cell BK106.out 1).trans rfl
                    have hcz24_2 : wc.cell? ⟨gb106, 2, none⟩ = some (.string ((rd_T44 l0 x3_1).f2)) := (blk_cell BK106.out 2).trans rfl
                    have hcz24_3 : wc.cell? ⟨gb106, 3, none⟩ = some (.slice A105_3 ((rd_T44 l0 x3_1).f3).length c105_3) := (blk_cell BK106.out 3).trans rfl
                    have hcz24_4 : wc.cell? ⟨gb106, 4, none⟩ = some (.slice A105_4 ((rd_T44 l0 x3_1).f4).length c105_4) := (blk_cell BK106.out 4).trans rfl
                    have hcz24_5 : wc.cell? ⟨gb106, 5, none⟩ = some (.slice A105_5 ((rd_T44 l0 x3_1).f5).length c105_5) := (blk_cell BK106.out 5).trans rfl
                    have hfz24_0 := blk_frozen BK106.out 0
                    have hfz24_1 := blk_frozen BK106.out 1
                    have hfz24_2 := blk_frozen BK106.out 2
                    have hfz24_3 := blk_frozen BK106.out 3
                    have hfz24_4 := blk_frozen BK106.out 4
                    have hfz24_5 := blk_frozen BK106.out 5
                    go_wp2_with (first | (go_at_call 6; (with_reducible refine (ih kj3 (by have := HK1.out; have := HJ3.out; omega) _ _ ((rd_T44 l0 x3_1).f4) false _ ?side1 ?side2 A12.out).mono ?_); (case side1 => repeat (first | exact (Kd.C_below HR105_4.out HB.out) | (with_reducible refine Kd.C_alloc ?_ _) | (with_reducible refine Kd.C_drewN ?_ _) | (with_reducible refine Kd.C_drew ?_))); (case side2 => exact HC105_4.out); rintro e w25 ⟨rfl, hb⟩; have n0_ := Aside0.mk (blk_below (g := gb106) (o := .cells #[.int .i64 ((rd_T44 l0 x3_1).f0), .string ((rd_T44 l0 x3_1).f1), .string ((rd_T44 l0 x3_1).f2), .slice A105_3 ((rd_T44 l0 x3_1).f3).length c105_3, .slice A105_4 ((rd_T44 l0 x3_1).f4).length c105_4, .slice A105_5 ((rd_T44 l0 x3_1).f5).length c105_5] 44 (0, 0)) (by (with_reducible repeat (first | refine blk_drewN ?_ _ | refine blk_drew ?_ | refine blk_alloc ?_ _)); exact BK106.out) hb); have n1_ := Aside0.mk (below_step (by repeat (first | (with_reducible first | exact HB.out | apply below_alloc | apply pw_below_drewN | apply below_drew1 | refine below_set ?_ GE106.out) | exact HB.out)) hb); clear BK106; clear HB; have BK106 := n0_; have HB := n1_; clear n0_ n1_; (try clear hb); (try clear hb2); (try clear hk); (try clear hi)))
                    go_roundg kj3
                    case measure => have := HK1.out; have := HJ3.out; omega
                    case rel => exact ⟨(wrap64 (x3_1 + 1)), (by first | rfl | (simp; done) | (simp [*]; done)), H', ⟨by have := HK1.out; have := HJ3.out; omega⟩, ⟨by repeat (first | (with_reducible first | exact HB.out | apply below_alloc | apply pw_below_drewN | apply below_drew1 | refine below_set ?_ GE106.out) | exact HB.out)⟩⟩
                · rw [if_neg c11] at H
                  have c11b0 : (((rd_T44 l0 x3_1).f0) == 4) = false := beq_eq_false_iff_ne.mpr c11
                  have c11b1 : (((rd_T44 l0 x3_1).f0) != 4) = true := bne_iff_ne.mpr c11
                  by_cases c26 : ((rd_T44 l0 x3_1).f0) = 6
                  · rw [if_pos c26] at H
                    have c26b0 : (((rd_T44 l0 x3_1).f0) == 6) = true := beq_iff_eq.mpr c26
                    have c26b1 : (((rd_T44 l0 x3_1).f0) != 6) = false := bne_eq_false_iff_eq.mpr c26
                    clear c26
                    replace H := Option.bind_eq_some_iff.mp H
                    obtain ⟨t109, A270, H⟩ := H
                    replace H : (if t109 = true then ((dataflowref11_Returns.f kj3 ((rd_T44 l0 x3_1).f5)).bind fun t110 => (if t110 = true then (some true) else (dataflowref11_Returns.l0 kj3 l0 (wrap64 (x3_1 + 1))))) else (dataflowref11_Returns.l0 kj3 l0 (wrap64 (x3_1 + 1)))) = some r := H
                    have A27 := Aside0.mk A270
                    clear A270
                    by_cases c28 : t109 = true
                    · subst c28
                      have H1 : ((dataflowref11_Returns.f kj3 ((rd_T44 l0 x3_1).f5)).bind fun t110 => (if t110 = true then (some true) else (dataflowref11_Returns.l0 kj3 l0 (wrap64 (x3_1 + 1))))) = some r := by rw [if_pos rfl] at H; exact H
                      clear H
                      have H := H1
                      clear H1
                      replace H := Option.bind_eq_some_iff.mp H
                      obtain ⟨t110, A290, H⟩ := H
                      replace H : (if t110 = true then (some true) else (dataflowref11_Returns.l0 kj3 l0 (wrap64 (x3_1 + 1)))) = some r := H
                      have A29 := Aside0.mk A290
                      clear A290
                      by_cases c30 : t110 = true
                      · subst c30
                        have H1 : (some true) = some r := by rw [if_pos rfl] at H; exact H
                        clear H
                        have H := H1
                        clear H1
                        obtain rfl := Option.some.inj H
                        have hcz31_0 : wc.cell? ⟨gb106, 0, none⟩ = some (.int .i64 ((rd_T44 l0 x3_1).f0)) := (blk_cell BK106.out 0).trans rfl
                        have hcz31_1 : wc.cell? ⟨gb106, 1, none⟩ = some (.string ((rd_T44 l0 x3_1).f1)) := (blk_cell BK106.out 1).trans rfl
                        have hcz31_2 : wc.cell? ⟨gb106, 2, none⟩ = some (.string ((rd_T44 l0 x3_1).f2)) := (blk_cell BK106.out 2).trans rfl
                        have hcz31_3 : wc.cell? ⟨gb106, 3, none⟩ = some (.slice A105_3 ((rd_T44 l0 x3_1).f3).length c105_3) := (blk_cell BK106.out 3).trans rfl
                        have hcz31_4 : wc.cell? ⟨gb106, 4, none⟩ = some (.slice A105_4 ((rd_T44 l0 x3_1).f4).length c105_4) := (blk_cell BK106.out 4).trans rfl
                        have hcz31_5 : wc.cell? ⟨gb106, 5, none⟩ = some (.slice A105_5 ((rd_T44 l0 x3_1).f5).length c105_5) := (blk_cell BK106.out 5).trans rfl
                        have hfz31_0 := blk_frozen BK106.out 0
                        have hfz31_1 := blk_frozen BK106.out 1
                        have hfz31_2 := blk_frozen BK106.out 2
                        have hfz31_3 := blk_frozen BK106.out 3
                        have hfz31_4 := blk_frozen BK106.out 4
                        have hfz31_5 := blk_frozen BK106.out 5
                        go_wp2_with (first | (go_at_call 6; (with_reducible refine (ih kj3 (by have := HK1.out; have := HJ3.out; omega) _ _ ((rd_T44 l0 x3_1).f4) true _ ?side1 ?side2 A27.out).mono ?_); (case side1 => repeat (first | exact (Kd.C_below HR105_4.out HB.out) | (with_reducible refine Kd.C_alloc ?_ _) | (with_reducible refine Kd.C_drewN ?_ _) | (with_reducible refine Kd.C_drew ?_))); (case side2 => exact HC105_4.out); rintro e w32 ⟨rfl, hb⟩; have n0_ := Aside0.mk (blk_below (g := gb106) (o := .cells #[.int .i64 ((rd_T44 l0 x3_1).f0), .string ((rd_T44 l0 x3_1).f1), .string ((rd_T44 l0 x3_1).f2), .slice A105_3 ((rd_T44 l0 x3_1).f3).length c105_3, .slice A105_4 ((rd_T44 l0 x3_1).f4).length c105_4, .slice A105_5 ((rd_T44 l0 x3_1).f5).length c105_5] 44 (0, 0)) (by (with_reducible repeat (first | refine blk_drewN ?_ _ | refine blk_drew ?_ | refine blk_alloc ?_ _)); exact BK106.out) hb); have n1_ := Aside0.mk (below_step (by repeat (first | (with_reducible first | exact HB.out | apply below_alloc | apply pw_below_drewN | apply below_drew1 | refine below_set ?_ GE106.out) | exact HB.out)) hb); clear BK106; clear HB; have BK106 := n0_; have HB := n1_; clear n0_ n1_; (try clear hb); (try clear hb2); (try clear hk); (try clear hi); have hcz33_0 : w32.cell? ⟨gb106, 0, none⟩ = some (.int .i64 ((rd_T44 l0 x3_1).f0)) := (blk_cell BK106.out 0).trans rfl; have hcz33_1 : w32.cell? ⟨gb106, 1, none⟩ = some (.string ((rd_T44 l0 x3_1).f1)) := (blk_cell BK106.out 1).trans rfl; have hcz33_2 : w32.cell? ⟨gb106, 2, none⟩ = some (.string ((rd_T44 l0 x3_1).f2)) := (blk_cell BK106.out 2).trans rfl; have hcz33_3 : w32.cell? ⟨gb106, 3, none⟩ = some (.slice A105_3 ((rd_T44 l0 x3_1).f3).length c105_3) := (blk_cell BK106.out 3).trans rfl; have hcz33_4 : w32.cell? ⟨gb106, 4, none⟩ = some (.slice A105_4 ((rd_T44 l0 x3_1).f4).length c105_4) := (blk_cell BK106.out 4).trans rfl; have hcz33_5 : w32.cell? ⟨gb106, 5, none⟩ = some (.slice A105_5 ((rd_T44 l0 x3_1).f5).length c105_5) := (blk_cell BK106.out 5).trans rfl; have hfz33_0 := blk_frozen BK106.out 0; have hfz33_1 := blk_frozen BK106.out 1; have hfz33_2 := blk_frozen BK106.out 2; have hfz33_3 := blk_frozen BK106.out 3; have hfz33_4 := blk_frozen BK106.out 4; have hfz33_5 := blk_frozen BK106.out 5) | (go_at_call 6; (with_reducible refine (ih kj3 (by have := HK1.out; have := HJ3.out; omega) _ _ ((rd_T44 l0 x3_1).f5) true _ ?side1 ?side2 A29.out).mono ?_); (case side1 => repeat (first | exact (Kd.C_below HR105_5.out HB.out) | (with_reducible refine Kd.C_alloc ?_ _) | (with_reducible refine Kd.C_drewN ?_ _) | (with_reducible refine Kd.C_drew ?_))); (case side2 => exact HC105_5.out); rintro e w34 ⟨rfl, hb⟩; have n0_ := Aside0.mk (blk_below (g := gb106) (o := .cells #[.int .i64 ((rd_T44 l0 x3_1).f0), .string ((rd_T44 l0 x3_1).f1), .string ((rd_T44 l0 x3_1).f2), .slice A105_3 ((rd_T44 l0 x3_1).f3).length c105_3, .slice A105_4 ((rd_T44 l0 x3_1).f4).length c105_4, .slice A105_5 ((rd_T44 l0 x3_1).f5).length c105_5] 44 (0, 0)) (by (with_reducible repeat (first | refine blk_drewN ?_ _ | refine blk_drew ?_ | refine blk_alloc ?_ _)); exact BK106.out) hb); have n1_ := Aside0.mk (below_step (by repeat (first | (with_reducible first | exact HB.out | apply below_alloc | apply pw_below_drewN | apply below_drew1 | refine below_set ?_ GE106.out) | exact HB.out)) hb); clear BK106; clear HB; have BK106 := n0_; have HB := n1_; clear n0_ n1_; (try clear hb); (try clear hb2); (try clear hk); (try clear hi)))
                        go_ret
                        exact ⟨by first | rfl | (simp [errW_none, errW_some] <;> rfl) | (simp [*, errW_none, errW_some] <;> rfl), by repeat (first | (with_reducible first | exact HB.out | apply below_alloc | apply pw_below_drewN | apply below_drew1 | refine below_set ?_ GE106.out) | exact HB.out)⟩
                      · replace c30 := Bool.eq_false_iff.mpr c30
                        subst c30
                        have H1 : (dataflowref11_Returns.l0 kj3 l0 (wrap64 (x3_1 + 1))) = some r := by rw [if_neg (show ¬ (false = true) by decide)] at H; exact H
                        clear H
                        have H := H1
                        clear H1
                        have H' := Aside0.mk H
                        clear H
                        have hcz35_0 : wc.cell? ⟨gb106, 0, none⟩ = some (.int .i64 ((rd_T44 l0 x3_1).f0)) := (blk_cell BK106.out 0).trans rfl
                        have hcz35_1 : wc.cell? ⟨gb106, 1, none⟩ = some (.string ((rd_T44 l0 x3_1).f1)) := (blk_cell BK106.out 1).trans rfl
                        have hcz35_2 : wc.cell? ⟨gb106, 2, none⟩ = some (.string ((rd_T44 l0 x3_1).f2)) := (blk_cell BK106.out 2).trans rfl
                        have hcz35_3 : wc.cell? ⟨gb106, 3, none⟩ = some (.slice A105_3 ((rd_T44 l0 x3_1).f3).length c105_3) := (blk_cell BK106.out 3).trans rfl
                        have hcz35_4 : wc.cell? ⟨gb106, 4, none⟩ = some (.slice A105_4 ((rd_T44 l0 x3_1).f4).length c105_4) := (blk_cell BK106.out 4).trans rfl
                        have hcz35_5 : wc.cell? ⟨gb106, 5, none⟩ = some (.slice A105_5 ((rd_T44 l0 x3_1).f5).length c105_5) := (blk_cell BK106.out 5).trans rfl
                        have hfz35_0 := blk_frozen BK106.out 0
                        have hfz35_1 := blk_frozen BK106.out 1
                        have hfz35_2 := blk_frozen BK106.out 2
                        have hfz35_3 := blk_frozen BK106.out 3
                        have hfz35_4 := blk_frozen BK106.out 4
                        have hfz35_5 := blk_frozen BK106.out 5
                        go_wp2_with (first | (go_at_call 6; (with_reducible refine (ih kj3 (by have := HK1.out; have := HJ3.out; omega) _ _ ((rd_T44 l0 x3_1).f4) true _ ?side1 ?side2 A27.out).mono ?_); (case side1 => repeat (first | exact (Kd.C_below HR105_4.out HB.out) | (with_reducible refine Kd.C_alloc ?_ _) | (with_reducible refine Kd.C_drewN ?_ _) | (with_reducible refine Kd.C_drew ?_))); (case side2 => exact HC105_4.out); rintro e w36 ⟨rfl, hb⟩; have n0_ := Aside0.mk (blk_below (g := gb106) (o := .cells #[.int .i64 ((rd_T44 l0 x3_1).f0), .string ((rd_T44 l0 x3_1).f1), .string ((rd_T44 l0 x3_1).f2), .slice A105_3 ((rd_T44 l0 x3_1).f3).length c105_3, .slice A105_4 ((rd_T44 l0 x3_1).f4).length c105_4, .slice A105_5 ((rd_T44 l0 x3_1).f5).length c105_5] 44 (0, 0)) (by (with_reducible repeat (first | refine blk_drewN ?_ _ | refine blk_drew ?_ | refine blk_alloc ?_ _)); exact BK106.out) hb); have n1_ := Aside0.mk (below_step (by repeat (first | (with_reducible first | exact HB.out | apply below_alloc | apply pw_below_drewN | apply below_drew1 | refine below_set ?_ GE106.out) | exact HB.out)) hb); clear BK106; clear HB; have BK106 := n0_; have HB := n1_; clear n0_ n1_; (try clear hb); (try clear hb2); (try clear hk); (try clear hi); have hcz37_0 : w36.cell? ⟨gb106, 0, none⟩ = some (.int .i64 ((rd_T44 l0 x3_1).f0)) := (blk_cell BK106.out 0).trans rfl; have hcz37_1 : w36.cell? ⟨gb106, 1, none⟩ = some (.string ((rd_T44 l0 x3_1).f1)) := (blk_cell BK106.out 1).trans rfl; have hcz37_2 : w36.cell? ⟨gb106, 2, none⟩ = some (.string ((rd_T44 l0 x3_1).f2)) := (blk_cell BK106.out 2).trans rfl; have hcz37_3 : w36.cell? ⟨gb106, 3, none⟩ = some (.slice A105_3 ((rd_T44 l0 x3_1).f3).length c105_3) := (blk_cell BK106.out 3).trans rfl; have hcz37_4 : w36.cell? ⟨gb106, 4, none⟩ = some (.slice A105_4 ((rd_T44 l0 x3_1).f4).length c105_4) := (blk_cell BK106.out 4).trans rfl; have hcz37_5 : w36.cell? ⟨gb106, 5, none⟩ = some (.slice A105_5 ((rd_T44 l0 x3_1).f5).length c105_5) := (blk_cell BK106.out 5).trans rfl; have hfz37_0 := blk_frozen BK106.out 0; have hfz37_1 := blk_frozen BK106.out 1; have hfz37_2 := blk_frozen BK106.out 2; have hfz37_3 := blk_frozen BK106.out 3; have hfz37_4 := blk_frozen BK106.out 4; have hfz37_5 := blk_frozen BK106.out 5) | (go_at_call 6; (with_reducible refine (ih kj3 (by have := HK1.out; have := HJ3.out; omega) _ _ ((rd_T44 l0 x3_1).f5) false _ ?side1 ?side2 A29.out).mono ?_); (case side1 => repeat (first | exact (Kd.C_below HR105_5.out HB.out) | (with_reducible refine Kd.C_alloc ?_ _) | (with_reducible refine Kd.C_drewN ?_ _) | (with_reducible refine Kd.C_drew ?_))); (case side2 => exact HC105_5.out); rintro e w38 ⟨rfl, hb⟩; have n0_ := Aside0.mk (blk_below (g := gb106) (o := .cells #[.int .i64 ((rd_T44 l0 x3_1).f0), .string ((rd_T44 l0 x3_1).f1), .string ((rd_T44 l0 x3_1).f2), .slice A105_3 ((rd_T44 l0 x3_1).f3).length c105_3, .slice A105_4 ((rd_T44 l0 x3_1).f4).length c105_4, .slice A105_5 ((rd_T44 l0 x3_1).f5).length c105_5] 44 (0, 0)) (by (with_reducible repeat (first | refine blk_drewN ?_ _ | refine blk_drew ?_ | refine blk_alloc ?_ _)); exact BK106.out) hb); have n1_ := Aside0.mk (below_step (by repeat (first | (with_reducible first | exact HB.out | apply below_alloc | apply pw_below_drewN | apply below_drew1 | refine below_set ?_ GE106.out) | exact HB.out)) hb); clear BK106; clear HB; have BK106 := n0_; have HB := n1_; clear n0_ n1_; (try clear hb); (try clear hb2); (try clear hk); (try clear hi)))
                        go_roundg kj3
                        case measure => have := HK1.out; have := HJ3.out; omega
                        case rel => exact ⟨(wrap64 (x3_1 + 1)), (by first | rfl | (simp; done) | (simp [*]; done)), H', ⟨by have := HK1.out; have := HJ3.out; omega⟩, ⟨by repeat (first | (with_reducible first | exact HB.out | apply below_alloc | apply pw_below_drewN | apply below_drew1 | refine below_set ?_ GE106.out) | exact HB.out)⟩⟩
                    · replace c28 := Bool.eq_false_iff.mpr c28
                      subst c28
                      have H1 : (dataflowref11_Returns.l0 kj3 l0 (wrap64 (x3_1 + 1))) = some r := by rw [if_neg (show ¬ (false = true) by decide)] at H; exact H
                      clear H
                      have H := H1
                      clear H1
                      have H' := Aside0.mk H
                      clear H
                      have hcz39_0 : wc.cell? ⟨gb106, 0, none⟩ = some (.int .i64 ((rd_T44 l0 x3_1).f0)) := (blk_cell BK106.out 0).trans rfl
                      have hcz39_1 : wc.cell? ⟨gb106, 1, none⟩ = some (.string ((rd_T44 l0 x3_1).f1)) := (blk_cell BK106.out 1).trans rfl
                      have hcz39_2 : wc.cell? ⟨gb106, 2, none⟩ = some (.string ((rd_T44 l0 x3_1).f2)) := (blk_cell BK106.out 2).trans rfl
                      have hcz39_3 : wc.cell? ⟨gb106, 3, none⟩ = some (.slice A105_3 ((rd_T44 l0 x3_1).f3).length c105_3) := (blk_cell BK106.out 3).trans rfl
                      have hcz39_4 : wc.cell? ⟨gb106, 4, none⟩ = some (.slice A105_4 ((rd_T44 l0 x3_1).f4).length c105_4) := (blk_cell BK106.out 4).trans rfl
                      have hcz39_5 : wc.cell? ⟨gb106, 5, none⟩ = some (.slice A105_5 ((rd_T44 l0 x3_1).f5).length c105_5) := (blk_cell BK106.out 5).trans rfl
                      have hfz39_0 := blk_frozen BK106.out 0
                      have hfz39_1 := blk_frozen BK106.out 1
                      have hfz39_2 := blk_frozen BK106.out 2
                      have hfz39_3 := blk_frozen BK106.out 3
                      have hfz39_4 := blk_frozen BK106.out 4
                      have hfz39_5 := blk_frozen BK106.out 5
                      go_wp2_with (first | (go_at_call 6; (with_reducible refine (ih kj3 (by have := HK1.out; have := HJ3.out; omega) _ _ ((rd_T44 l0 x3_1).f4) false _ ?side1 ?side2 A27.out).mono ?_); (case side1 => repeat (first | exact (Kd.C_below HR105_4.out HB.out) | (with_reducible refine Kd.C_alloc ?_ _) | (with_reducible refine Kd.C_drewN ?_ _) | (with_reducible refine Kd.C_drew ?_))); (case side2 => exact HC105_4.out); rintro e w40 ⟨rfl, hb⟩; have n0_ := Aside0.mk (blk_below (g := gb106) (o := .cells #[.int .i64 ((rd_T44 l0 x3_1).f0), .string ((rd_T44 l0 x3_1).f1), .string ((rd_T44 l0 x3_1).f2), .slice A105_3 ((rd_T44 l0 x3_1).f3).length c105_3, .slice A105_4 ((rd_T44 l0 x3_1).f4).length c105_4, .slice A105_5 ((rd_T44 l0 x3_1).f5).length c105_5] 44 (0, 0)) (by (with_reducible repeat (first | refine blk_drewN ?_ _ | refine blk_drew ?_ | refine blk_alloc ?_ _)); exact BK106.out) hb); have n1_ := Aside0.mk (below_step (by repeat (first | (with_reducible first | exact HB.out | apply below_alloc | apply pw_below_drewN | apply below_drew1 | refine below_set ?_ GE106.out) | exact HB.out)) hb); clear BK106; clear HB; have BK106 := n0_; have HB := n1_; clear n0_ n1_; (try clear hb); (try clear hb2); (try clear hk); (try clear hi)))
                      go_roundg kj3
                      case measure => have := HK1.out; have := HJ3.out; omega
                      case rel => exact ⟨(wrap64 (x3_1 + 1)), (by first | rfl | (simp; done) | (simp [*]; done)), H', ⟨by have := HK1.out; have := HJ3.out; omega⟩, ⟨by repeat (first | (with_reducible first | exact HB.out | apply below_alloc | apply pw_below_drewN | apply below_drew1 | refine below_set ?_ GE106.out) | exact HB.out)⟩⟩
                  · rw [if_neg c26] at H
                    have c26b0 : (((rd_T44 l0 x3_1).f0) == 6) = false := beq_eq_false_iff_ne.mpr c26
                    have c26b1 : (((rd_T44 l0 x3_1).f0) != 6) = true := bne_iff_ne.mpr c26
                    have H' := Aside0.mk H
                    clear H
                    have hcz41_0 : wc.cell? ⟨gb106, 0, none⟩ = some (.int .i64 ((rd_T44 l0 x3_1).f0)) := (blk_cell BK106.out 0).trans rfl
                    have hcz41_1 : wc.cell? ⟨gb106, 1, none⟩ = some (.string ((rd_T44 l0 x3_1).f1)) := (blk_cell BK106.out 1).trans rfl
                    have hcz41_2 : wc.cell? ⟨gb106, 2, none⟩ = some (.string ((rd_T44 l0 x3_1).f2)) := (blk_cell BK106.out 2).trans rfl
                    have hcz41_3 : wc.cell? ⟨gb106, 3, none⟩ = some (.slice A105_3 ((rd_T44 l0 x3_1).f3).length c105_3) := (blk_cell BK106.out 3).trans rfl
                    have hcz41_4 : wc.cell? ⟨gb106, 4, none⟩ = some (.slice A105_4 ((rd_T44 l0 x3_1).f4).length c105_4) := (blk_cell BK106.out 4).trans rfl
                    have hcz41_5 : wc.cell? ⟨gb106, 5, none⟩ = some (.slice A105_5 ((rd_T44 l0 x3_1).f5).length c105_5) := (blk_cell BK106.out 5).trans rfl
                    have hfz41_0 := blk_frozen BK106.out 0
                    have hfz41_1 := blk_frozen BK106.out 1
                    have hfz41_2 := blk_frozen BK106.out 2
                    have hfz41_3 := blk_frozen BK106.out 3
                    have hfz41_4 := blk_frozen BK106.out 4
                    have hfz41_5 := blk_frozen BK106.out 5
                    go_wp2
                    go_roundg kj3
                    case measure => have := HK1.out; have := HJ3.out; omega
                    case rel => exact ⟨(wrap64 (x3_1 + 1)), (by first | rfl | (simp; done) | (simp [*]; done)), H', ⟨by have := HK1.out; have := HJ3.out; omega⟩, ⟨by repeat (first | (with_reducible first | exact HB.out | apply below_alloc | apply pw_below_drewN | apply below_drew1 | refine below_set ?_ GE106.out) | exact HB.out)⟩⟩
        · rw [if_neg c3] at H
          exact absurd H (by simp)
      · rw [if_neg c2] at H
        have c2b0 : decide (x3_1 < (l0.length : Int)) = false := decide_eq_false c2
        clear c2
        obtain rfl := Option.some.inj H
        go_wp2
        go_ret
        exact ⟨by first | rfl | (simp [errW_none, errW_some] <;> rfl) | (simp [*, errW_none, errW_some] <;> rfl), by repeat (first | (with_reducible first | exact HB.out | apply below_alloc | apply pw_below_drewN | apply below_drew1) | exact HB.out)⟩







end Go.Proofs.YtjpmlaehincmaaaDoor.Cx
