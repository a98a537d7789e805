import Derived.Test.YtiffnkmbmenhfaaDoorR1
/-! Turned from a print. -/
namespace Go.Proofs.YtiffnkmbmenhfaaDoor.Cx
open Go.RowKit Go.Proofs.YtiffnkmbmenhfaaDoorW.PrintWords Go.Proofs.YtiffnkmbmenhfaaDoorW.PrintLast Go.Proofs.YtiffnkmbmenhfaaDoorW.PrintMore
attribute [local go_sem] max2_int min2_int max_two min_two max_three min_three max_four min_four   -- for this text's walks alone
set_option linter.unusedVariables false
set_option linter.unusedSimpArgs false
mutual
def rS.l0 : Nat → List (S108) → List (S108) → Int → Option (Bool)
  | 0, _, _, _ => none
  | k + 1, x0, x1, x5 => if x5 < (x0.length : Int) then (if 0 ≤ x5 then (if x5 < (x1.length : Int) then (if ((rd_T108 x0 x5).f0) = ((rd_T108 x1 x5).f0) then (if ((rd_T108 x0 x5).f1).toList = ((rd_T108 x1 x5).f1).toList then (if ((rd_T108 x0 x5).f2).toList = ((rd_T108 x1 x5).f2).toList then ((rE.f k ((rd_T108 x0 x5).f3) ((rd_T108 x1 x5).f3)).bind fun t110 => (if t110 = true then ((rS.f k ((rd_T108 x0 x5).f4) ((rd_T108 x1 x5).f4)).bind fun t111 => (if t111 = true then ((rS.f k ((rd_T108 x0 x5).f5) ((rd_T108 x1 x5).f5)).bind fun t112 => (if t112 = true then (rS.l0 k x0 x1 (wrap64 (x5 + 1))) else (some false))) else (some false))) else (some false))) else (some false)) else (some false)) else (some false)) else (none)) else (none)) else (some true)
def rS.f : Nat → List (S108) → List (S108) → Option (Bool)
  | 0, _, _ => none
  | k + 1, l0, l1 => if (l0.length : Int) = (l1.length : Int) then (rS.l0 k l0 l1 0) else (some false)
end
theorem rS.mono_l : ∀ k, (∀ y0 y1, LeO (rS.f k y0 y1) (rS.f (k + 1) y0 y1)) ∧ (∀ y0 y1 y2, LeO (rS.l0 k y0 y1 y2) (rS.l0 (k + 1) y0 y1 y2))
  | 0 => ⟨fun _ _ r h => by simp [rS.f] at h, fun _ _ _ r h => by simp [rS.l0] at h⟩
  | k + 1 => by
    obtain ⟨ih0, ih1⟩ := rS.mono_l k
    refine ⟨?_, ?_⟩
    · intro y0 y1
      unfold rS.f
      repeat' first
      | (with_reducible exact ih0 _ _)
      | (with_reducible exact ih1 _ _ _)
      | (with_reducible exact rE.mono _ _ _)
      | (with_reducible exact LeO.refl _)
      | (with_reducible exact LeO.none _)
      | (with_reducible refine LeO.ite ?_ ?_)
      | (with_reducible refine LeO.bind ?_ (fun _ => ?_))
      | exact ih0 _ _
      | exact ih1 _ _ _
      | exact rE.mono _ _ _
      | exact LeO.none _
      | refine LeO.ite ?_ ?_
      | refine LeO.bind ?_ (fun _ => ?_)
    · intro y0 y1 y2
      unfold rS.l0
      repeat' first
      | (with_reducible exact ih0 _ _)
      | (with_reducible exact ih1 _ _ _)
      | (with_reducible exact rE.mono _ _ _)
      | (with_reducible exact LeO.refl _)
      | (with_reducible exact LeO.none _)
      | (with_reducible refine LeO.ite ?_ ?_)
      | (with_reducible refine LeO.bind ?_ (fun _ => ?_))
      | exact ih0 _ _
      | exact ih1 _ _ _
      | exact rE.mono _ _ _
      | exact LeO.none _
      | refine LeO.ite ?_ ?_
      | refine LeO.bind ?_ (fun _ => ?_)
theorem rS.mono : ∀ a0 a1 k, LeO (rS.f k a0 a1) (rS.f (k + 1) a0 a1) := by
  intro a0 a1 k
  obtain ⟨ih0, ih1⟩ := rS.mono_l k
  exact ih0 a0 a1
def rS.T6 : Bool × List (List Nat × List Nat) := (true, [([], []), ([], []), ([0, 1], [0, 1]), ([2], [2]), ([], []), ([], []), ([4, 5], [4, 5]), ([6], [6]), ([], []), ([], []), ([8, 3, 0, 1, 2, 3, 8, 9], [3, 8]), ([9, 7, 10, 0, 1, 2, 3, 4, 5, 6, 7, 8, 9, 10], [7, 9])])
def rS.B6 : List Nat := [0, 0, 3, 7, 0, 0, 48, 112, 0, 0, 783, 2047]
theorem rS.tab6 : rtab .any (opsOf Tryd.f37 6) = rS.T6 := by kernel_rfl
theorem rS.bits6 : waitsOk rS.T6.2 rS.B6 = true := by kernel_rfl
set_option maxHeartbeats 8000000 in
set_option maxRecDepth 100000 in
theorem rS.calls (k : Nat) : ∀ (A0 : Option Addr) (c0 : Nat) (l0 : List (S108)) (A1 : Option Addr) (c1 : Nat) (l1 : List (S108)) (r : Bool) (w : World) (hr0 : Kd.C k108 w A0 l0.length l0) (hc0 : l0.length ≤ c0) (hr1 : Kd.C k108 w A1 l1.length l1) (hc1 : l1.length ≤ c1) (h : rS.f k l0 l1 = some r),
    Calls Tryd.prog 37 #[.slice A0 l0.length c0, .slice A1 l1.length c1] w fun e w' => e = .returned (.bool r) ∧ Below w.heap.size w w' := by
  induction k using Nat.strongRecOn with
  | _ k ih =>
  intro A0 c0 l0 A1 c1 l1 r w hr0 hc0 hr1 hc1 h
  cases k with
  | zero => exact absurd h (by simp [rS.f])
  | succ k =>
  simp only [rS.f] at h
  have hu108 := Tryd.underlying108
  have HR0 := Aside0.mk hr0
  have HC0 := Aside0.mk hc0
  clear hr0 hc0
  have HR1 := Aside0.mk hr1
  have HC1 := Aside0.mk hc1
  clear hr1 hc1
  have HB := Aside0.mk (Below.refl w.heap.size w)
  have H : (if (l0.length : Int) = (l1.length : Int) then (rS.l0 k l0 l1 0) else (some false)) = some r := h
  clear h
  by_cases c3 : (l0.length : Int) = (l1.length : Int)
  · rw [if_pos c3] at H
    have c3b0 : ((l0.length : Int) == (l1.length : Int)) = true := beq_iff_eq.mpr c3
    have c3b1 : ((l0.length : Int) != (l1.length : Int)) = false := bne_eq_false_iff_eq.mpr c3
    have c3b2 : (l0.length == l1.length) = true := by first | simpa using c3 | (simp at c3 ⊢; omega)
    clear c3
    have H' := Aside0.mk H
    clear H
    go_enter Tryd.func37, Tryd.ntmps37
    go_wp2
    go_loopg [5] k (fun kq v5 w' => ∃ (x5_1 : Int), v5 = .int .i64 x5_1 ∧ Aside0 (rS.l0 kq l0 l1 x5_1 = some r) ∧ Aside0 (kq ≤ k) ∧ Aside0 (Below w.heap.size w w'))
    case atStart => exact ⟨(0), (by first | rfl | (simp; done) | (simp [*]; done)), H', ⟨Nat.le_refl _⟩, ⟨by repeat (first | (with_reducible first | exact HB.out | apply below_alloc | apply wN | apply wD) | exact HB.out)⟩⟩
    case round =>
      clear H'
      try clear c1
      try clear p2
      try clear c3
      try clear c3b0
      try clear c3b1
      try clear c3b2
      obtain ⟨x5_1, rfl, HA, HK1, HB⟩ := hrel
      cases gk with
      | zero => exact absurd HA.out (by simp [rS.l0])
      | succ k1 =>
        have H := HA.out
        clear HA
        simp only [rS.l0] at H
        by_cases c4 : x5_1 < (l0.length : Int)
        · rw [if_pos c4] at H
          have c4b0 : decide (x5_1 < (l0.length : Int)) = true := decide_eq_true c4
          clear c4
          by_cases c5 : 0 ≤ x5_1
          · rw [if_pos c5] at H
            have c5b0 : decide (0 ≤ x5_1) = true := decide_eq_true c5
            clear c5
            by_cases c6 : x5_1 < (l1.length : Int)
            · rw [if_pos c6] at H
              have c6b0 : decide (x5_1 < (l1.length : Int)) = true := decide_eq_true c6
              clear c6
              have HX_ := Aside0.mk H
              clear H
              try go_wp2
              have n0_ := Aside0.mk (wD HB.out)
              clear HB
              have HB := n0_
              clear n0_
              have p106 : 0 ≤ (x5_1 : Int) := of_decide_eq_true (by first | (with_reducible assumption) | assumption)
              have q106 : x5_1 < (l0.length : Int) := of_decide_eq_true (by first | (with_reducible assumption) | assumption)
              obtain ⟨ad106, A106_3, c106_3, A106_4, c106_4, A106_5, c106_5, e106, hx106_0, hx106_1, hx106_2, hx106_3, hx106_4, hx106_5, hl106_3, hi106_3, hl106_4, hi106_4, hl106_5, hi106_5⟩ := at_T108 HR0.out x5_1 p106 q106
              have hw106_5 := hx106_5
              have hw106_4 := hx106_4
              have hw106_3 := hx106_3
              have hw106_2 := hx106_2
              have hw106_1 := hx106_1
              have hw106_0 := hx106_0
              cases e106
              replace hx106_0 := (HB.out.cell (World.block_lt_of_cell? w _ hx106_0)).trans hx106_0
              replace hx106_1 := (HB.out.cell (World.block_lt_of_cell? w _ hx106_1)).trans hx106_1
              replace hx106_2 := (HB.out.cell (World.block_lt_of_cell? w _ hx106_2)).trans hx106_2
              replace hx106_3 := (HB.out.cell (World.block_lt_of_cell? w _ hx106_3)).trans hx106_3
              replace hx106_4 := (HB.out.cell (World.block_lt_of_cell? w _ hx106_4)).trans hx106_4
              replace hx106_5 := (HB.out.cell (World.block_lt_of_cell? w _ hx106_5)).trans hx106_5
              have HR106_3 := Aside0.mk hi106_3
              have HC106_3 := Aside0.mk hl106_3
              clear hi106_3 hl106_3
              have HR106_4 := Aside0.mk hi106_4
              have HC106_4 := Aside0.mk hl106_4
              clear hi106_4 hl106_4
              have HR106_5 := Aside0.mk hi106_5
              have HC106_5 := Aside0.mk hl106_5
              clear hi106_5 hl106_5
              replace p106 := eq_true p106
              replace q106 := eq_true q106
              have p107 : 0 ≤ (x5_1 : Int) := of_decide_eq_true (by first | (with_reducible assumption) | assumption)
              have q107 : x5_1 < (l1.length : Int) := of_decide_eq_true (by first | (with_reducible assumption) | assumption)
              obtain ⟨ad107, A107_3, c107_3, A107_4, c107_4, A107_5, c107_5, e107, hx107_0, hx107_1, hx107_2, hx107_3, hx107_4, hx107_5, hl107_3, hi107_3, hl107_4, hi107_4, hl107_5, hi107_5⟩ := at_T108 HR1.out x5_1 p107 q107
              have hw107_5 := hx107_5
              have hw107_4 := hx107_4
              have hw107_3 := hx107_3
              have hw107_2 := hx107_2
              have hw107_1 := hx107_1
              have hw107_0 := hx107_0
              cases e107
              replace hx107_0 := (HB.out.cell (World.block_lt_of_cell? w _ hx107_0)).trans hx107_0
              replace hx107_1 := (HB.out.cell (World.block_lt_of_cell? w _ hx107_1)).trans hx107_1
              replace hx107_2 := (HB.out.cell (World.block_lt_of_cell? w _ hx107_2)).trans hx107_2
              replace hx107_3 := (HB.out.cell (World.block_lt_of_cell? w _ hx107_3)).trans hx107_3
              replace hx107_4 := (HB.out.cell (World.block_lt_of_cell? w _ hx107_4)).trans hx107_4
              replace hx107_5 := (HB.out.cell (World.block_lt_of_cell? w _ hx107_5)).trans hx107_5
              have HR107_3 := Aside0.mk hi107_3
              have HC107_3 := Aside0.mk hl107_3
              clear hi107_3 hl107_3
              have HR107_4 := Aside0.mk hi107_4
              have HC107_4 := Aside0.mk hl107_4
              clear hi107_4 hl107_4
              have HR107_5 := Aside0.mk hi107_5
              have HC107_5 := Aside0.mk hl107_5
              clear hi107_5 hl107_5
              replace p107 := eq_true p107
              replace q107 := eq_true q107
              refine start_ (n := 12) (S := fun w' => w'.cell? (ad106.add ((x5_1).toNat * 6)) = some (.int .i64 ((rd_T108 l0 x5_1).f0)) ∧ w'.cell? ⟨(ad106.add ((x5_1).toNat * 6)).block, (ad106.add ((x5_1).toNat * 6)).off + 1, none⟩ = some (.string ((rd_T108 l0 x5_1).f1)) ∧ w'.cell? ⟨(ad106.add ((x5_1).toNat * 6)).block, (ad106.add ((x5_1).toNat * 6)).off + 2, none⟩ = some (.string ((rd_T108 l0 x5_1).f2)) ∧ w'.cell? ⟨(ad106.add ((x5_1).toNat * 6)).block, (ad106.add ((x5_1).toNat * 6)).off + 3, none⟩ = some (.slice A106_3 ((rd_T108 l0 x5_1).f3).length c106_3) ∧ w'.cell? ⟨(ad106.add ((x5_1).toNat * 6)).block, (ad106.add ((x5_1).toNat * 6)).off + 4, none⟩ = some (.slice A106_4 ((rd_T108 l0 x5_1).f4).length c106_4) ∧ w'.cell? ⟨(ad106.add ((x5_1).toNat * 6)).block, (ad106.add ((x5_1).toNat * 6)).off + 5, none⟩ = some (.slice A106_5 ((rd_T108 l0 x5_1).f5).length c106_5) ∧ w'.cell? (ad107.add ((x5_1).toNat * 6)) = some (.int .i64 ((rd_T108 l1 x5_1).f0)) ∧ w'.cell? ⟨(ad107.add ((x5_1).toNat * 6)).block, (ad107.add ((x5_1).toNat * 6)).off + 1, none⟩ = some (.string ((rd_T108 l1 x5_1).f1)) ∧ w'.cell? ⟨(ad107.add ((x5_1).toNat * 6)).block, (ad107.add ((x5_1).toNat * 6)).off + 2, none⟩ = some (.string ((rd_T108 l1 x5_1).f2)) ∧ w'.cell? ⟨(ad107.add ((x5_1).toNat * 6)).block, (ad107.add ((x5_1).toNat * 6)).off + 3, none⟩ = some (.slice A107_3 ((rd_T108 l1 x5_1).f3).length c107_3) ∧ w'.cell? ⟨(ad107.add ((x5_1).toNat * 6)).block, (ad107.add ((x5_1).toNat * 6)).off + 4, none⟩ = some (.slice A107_4 ((rd_T108 l1 x5_1).f4).length c107_4) ∧ w'.cell? ⟨(ad107.add ((x5_1).toNat * 6)).block, (ad107.add ((x5_1).toNat * 6)).off + 5, none⟩ = some (.slice A107_5 ((rd_T108 l1 x5_1).f5).length c107_5)) (ds := []) #[false, false, false, false, false, false, false, false, false, false, false, false] (by kernel_rfl) rfl rfl ⟨((HB.out.cell (World.block_lt_of_cell? w _ hw106_0)).trans hw106_0), ((HB.out.cell (World.block_lt_of_cell? w _ hw106_1)).trans hw106_1), ((HB.out.cell (World.block_lt_of_cell? w _ hw106_2)).trans hw106_2), ((HB.out.cell (World.block_lt_of_cell? w _ hw106_3)).trans hw106_3), ((HB.out.cell (World.block_lt_of_cell? w _ hw106_4)).trans hw106_4), ((HB.out.cell (World.block_lt_of_cell? w _ hw106_5)).trans hw106_5), ((HB.out.cell (World.block_lt_of_cell? w _ hw107_0)).trans hw107_0), ((HB.out.cell (World.block_lt_of_cell? w _ hw107_1)).trans hw107_1), ((HB.out.cell (World.block_lt_of_cell? w _ hw107_2)).trans hw107_2), ((HB.out.cell (World.block_lt_of_cell? w _ hw107_3)).trans hw107_3), ((HB.out.cell (World.block_lt_of_cell? w _ hw107_4)).trans hw107_4), ((HB.out.cell (World.block_lt_of_cell? w _ hw107_5)).trans hw107_5)⟩ (fun hHeld => ?_); refine with_tabW rS.tab6 rS.bits6 (fun HT_ HW_ => ?_)
              generalize wr.drew = w16 at HB HR106_3 HR106_4 HR106_5 HR107_3 HR107_4 HR107_5 hx106_0 hx106_1 hx106_2 hx106_3 hx106_4 hx106_5 hx107_0 hx107_1 hx107_2 hx107_3 hx107_4 hx107_5 hHeld ⊢
              refine pure_ (i := 0) (N := some 19) (v := ?_) (a' := ?_) #[true, false, false, false, false, false, false, false, false, false, false, false] rfl rfl (any_of HT_.out (by kernel_rfl)) (fun _ _ _ h => h) (Or.inl ⟨by rfl, ?_⟩) ?_ ?_
              rotate_left
              · intro w'
                go_simp
                with_reducible rfl
              rotate_left
              · simp only [Act.put, List.setIfInBounds_toArray, List.set_cons_zero, List.set_cons_succ, i64_w, i32_w]
                rfl
              refine pure_ (i := 1) (N := some 20) (v := ?_) (a' := ?_) #[true, true, false, false, false, false, false, false, false, false, false, false] rfl rfl (any_of HT_.out (by kernel_rfl)) (fun _ _ _ h => h) (Or.inl ⟨by rfl, ?_⟩) ?_ ?_
              rotate_left
              · intro w'
                go_simp
                with_reducible rfl
              rotate_left
              · simp only [Act.put, List.setIfInBounds_toArray, List.set_cons_zero, List.set_cons_succ, i64_w, i32_w]
                rfl
              refine pure_ (i := 2) (N := some 21) (v := ?_) (a' := ?_) #[true, true, true, false, false, false, false, false, false, false, false, false] rfl rfl (any_of HT_.out (by kernel_rfl)) (fun _ _ _ h => h) (Or.inl ⟨by rfl, ?_⟩) ?_ ?_
              rotate_left
              · intro w'
                go_simp
                with_reducible rfl
              rotate_left
              · simp only [Act.put, List.setIfInBounds_toArray, List.set_cons_zero, List.set_cons_succ, i64_w, i32_w]
                rfl
              refine pure_ (i := 4) (N := some 23) (v := ?_) (a' := ?_) #[true, true, true, false, true, false, false, false, false, false, false, false] rfl rfl (any_of HT_.out (by kernel_rfl)) (fun _ _ _ h => h) (Or.inl ⟨by rfl, ?_⟩) ?_ ?_
              rotate_left
              · intro w'
                go_simp
                with_reducible rfl
              rotate_left
              · simp only [Act.put, List.setIfInBounds_toArray, List.set_cons_zero, List.set_cons_succ, i64_w, i32_w]
                rfl
              refine pure_ (i := 5) (N := some 24) (v := ?_) (a' := ?_) #[true, true, true, false, true, true, false, false, false, false, false, false] rfl rfl (any_of HT_.out (by kernel_rfl)) (fun _ _ _ h => h) (Or.inl ⟨by rfl, ?_⟩) ?_ ?_
              rotate_left
              · intro w'
                go_simp
                with_reducible rfl
              rotate_left
              · simp only [Act.put, List.setIfInBounds_toArray, List.set_cons_zero, List.set_cons_succ, i64_w, i32_w]
                rfl
              refine pure_ (i := 6) (N := some 25) (v := ?_) (a' := ?_) #[true, true, true, false, true, true, true, false, false, false, false, false] rfl rfl (any_of HT_.out (by kernel_rfl)) (fun _ _ _ h => h) (Or.inl ⟨by rfl, ?_⟩) ?_ ?_
              rotate_left
              · intro w'
                go_simp
                with_reducible rfl
              rotate_left
              · simp only [Act.put, List.setIfInBounds_toArray, List.set_cons_zero, List.set_cons_succ, i64_w, i32_w]
                rfl
              refine take_ (i := 3) (N := some 22) (v := ?_) (a' := ?_) #[true, true, true, true, true, true, true, false, false, false, false, false] rfl rfl (take_ofW HT_.out HW_.out (by kernel_rfl)) (fun _ _ _ h => h) (Or.inl ⟨by rfl, ?_⟩) hHeld ?_ ?_
              rotate_left
              · rintro w' ⟨s0, s1, s2, s3, s4, s5, s6, s7, s8, s9, s10, s11⟩
                go_simp
                with_reducible rfl
              rotate_left
              · simp only [Act.put, List.setIfInBounds_toArray, List.set_cons_zero, List.set_cons_succ, i64_w, i32_w]
                rfl
              refine take_ (i := 7) (N := some 26) (v := ?_) (a' := ?_) #[true, true, true, true, true, true, true, true, false, false, false, false] rfl rfl (take_ofW HT_.out HW_.out (by kernel_rfl)) (fun _ _ _ h => h) (Or.inl ⟨by rfl, ?_⟩) hHeld ?_ ?_
              rotate_left
              · rintro w' ⟨s0, s1, s2, s3, s4, s5, s6, s7, s8, s9, s10, s11⟩
                go_simp
                with_reducible rfl
              rotate_left
              · simp only [Act.put, List.setIfInBounds_toArray, List.set_cons_zero, List.set_cons_succ, i64_w, i32_w]
                rfl
              refine join_ (σ := Nat × Nat) 2 #[true, true, true, true, true, true, true, true, true, true, false, false] (fun s_ => [(6, .pointer (some ⟨s_.1, 0, none⟩)), (7, .pointer (some ⟨s_.2, 0, none⟩))]) (fun s_ w' => (w'.cell? (ad106.add ((x5_1).toNat * 6)) = some (.int .i64 ((rd_T108 l0 x5_1).f0)) ∧ w'.cell? ⟨(ad106.add ((x5_1).toNat * 6)).block, (ad106.add ((x5_1).toNat * 6)).off + 1, none⟩ = some (.string ((rd_T108 l0 x5_1).f1)) ∧ w'.cell? ⟨(ad106.add ((x5_1).toNat * 6)).block, (ad106.add ((x5_1).toNat * 6)).off + 2, none⟩ = some (.string ((rd_T108 l0 x5_1).f2)) ∧ w'.cell? ⟨(ad106.add ((x5_1).toNat * 6)).block, (ad106.add ((x5_1).toNat * 6)).off + 3, none⟩ = some (.slice A106_3 ((rd_T108 l0 x5_1).f3).length c106_3) ∧ w'.cell? ⟨(ad106.add ((x5_1).toNat * 6)).block, (ad106.add ((x5_1).toNat * 6)).off + 4, none⟩ = some (.slice A106_4 ((rd_T108 l0 x5_1).f4).length c106_4) ∧ w'.cell? ⟨(ad106.add ((x5_1).toNat * 6)).block, (ad106.add ((x5_1).toNat * 6)).off + 5, none⟩ = some (.slice A106_5 ((rd_T108 l0 x5_1).f5).length c106_5) ∧ w'.cell? (ad107.add ((x5_1).toNat * 6)) = some (.int .i64 ((rd_T108 l1 x5_1).f0)) ∧ w'.cell? ⟨(ad107.add ((x5_1).toNat * 6)).block, (ad107.add ((x5_1).toNat * 6)).off + 1, none⟩ = some (.string ((rd_T108 l1 x5_1).f1)) ∧ w'.cell? ⟨(ad107.add ((x5_1).toNat * 6)).block, (ad107.add ((x5_1).toNat * 6)).off + 2, none⟩ = some (.string ((rd_T108 l1 x5_1).f2)) ∧ w'.cell? ⟨(ad107.add ((x5_1).toNat * 6)).block, (ad107.add ((x5_1).toNat * 6)).off + 3, none⟩ = some (.slice A107_3 ((rd_T108 l1 x5_1).f3).length c107_3) ∧ w'.cell? ⟨(ad107.add ((x5_1).toNat * 6)).block, (ad107.add ((x5_1).toNat * 6)).off + 4, none⟩ = some (.slice A107_4 ((rd_T108 l1 x5_1).f4).length c107_4) ∧ w'.cell? ⟨(ad107.add ((x5_1).toNat * 6)).block, (ad107.add ((x5_1).toNat * 6)).off + 5, none⟩ = some (.slice A107_5 ((rd_T108 l1 x5_1).f5).length c107_5)) ∧ (w'.heap[s_.1]? = some (.cells #[.int .i64 0, .string (⟨#[]⟩ : ByteArray), .string (⟨#[]⟩ : ByteArray), .slice none 0 0, .slice none 0 0, .slice none 0 0] 108 (0, 0))) ∧ (w'.heap[s_.2]? = some (.cells #[.int .i64 0, .string (⟨#[]⟩ : ByteArray), .string (⟨#[]⟩ : ByteArray), .slice none 0 0, .slice none 0 0, .slice none 0 0] 108 (0, 0))) ∧ (w.heap.size ≤ s_.1) ∧ (w.heap.size ≤ s_.1) ∧ (s_.2 ≠ s_.1) ∧ (s_.1 ≠ s_.2) ∧ (w.heap.size ≤ s_.2) ∧ (w.heap.size ≤ s_.2) ∧ (Below w.heap.size w w')) ?_ ?_
              rotate_left
              · intro hCont
                refine two_ (i := 8) (j := 9) (Ni := some 6) (Nj := some 7) #[true, true, true, true, true, true, true, true, true, false, false, false] #[true, true, true, true, true, true, true, true, false, true, false, false] rfl rfl rfl rfl (two_of HT_.out (by kernel_rfl)) (by decide) (by decide) (fun K hK => ?_) (fun K hK => ?_)
                · skip
                  refine box_step ?hg (N := 6) ?hd (cs := #[.int .i64 0, .string (⟨#[]⟩ : ByteArray), .string (⟨#[]⟩ : ByteArray), .slice none 0 0, .slice none 0 0, .slice none 0 0]) (t := 108) ?hr ?_; (case hd => rfl); (case hg => rfl); (case hr => first | (go_simp; done) | (go_simp; rfl))
                  intro gb108 hg w17 hbox hb
                  have n0_ := Aside0.mk (below_step (by repeat (first | (with_reducible first | exact HB.out | apply below_alloc | apply wN | apply wD) | exact HB.out)) hb)
                  have n1_ := Aside0.mk (hbox)
                  have n2_ := Aside0.mk ((by rw [hg]; exact (below_size (by repeat (first | (with_reducible first | exact HB.out | apply below_alloc | apply wN | apply wD) | exact HB.out))) : w.heap.size ≤ gb108))
                  have n3_ := Aside0.mk ((by rw [hg]; exact (below_size (by repeat (first | (with_reducible first | exact HB.out | apply below_alloc | apply wN | apply wD) | exact HB.out))) : w.heap.size ≤ gb108))
                  clear HB
                  have HB := n0_
                  have BK108 := n1_
                  have GW108 := n2_
                  have GE108 := n3_
                  clear n0_ n1_ n2_ n3_
                  clear hb hbox hg
                  refine hK.out _ _ ⟨((HB.out.cell (World.block_lt_of_cell? w _ hw106_0)).trans hw106_0), ((HB.out.cell (World.block_lt_of_cell? w _ hw106_1)).trans hw106_1), ((HB.out.cell (World.block_lt_of_cell? w _ hw106_2)).trans hw106_2), ((HB.out.cell (World.block_lt_of_cell? w _ hw106_3)).trans hw106_3), ((HB.out.cell (World.block_lt_of_cell? w _ hw106_4)).trans hw106_4), ((HB.out.cell (World.block_lt_of_cell? w _ hw106_5)).trans hw106_5), ((HB.out.cell (World.block_lt_of_cell? w _ hw107_0)).trans hw107_0), ((HB.out.cell (World.block_lt_of_cell? w _ hw107_1)).trans hw107_1), ((HB.out.cell (World.block_lt_of_cell? w _ hw107_2)).trans hw107_2), ((HB.out.cell (World.block_lt_of_cell? w _ hw107_3)).trans hw107_3), ((HB.out.cell (World.block_lt_of_cell? w _ hw107_4)).trans hw107_4), ((HB.out.cell (World.block_lt_of_cell? w _ hw107_5)).trans hw107_5)⟩ (fun hHeld => ?_)
                  clear hK K
                  refine norm_ (a' := ?_) ?_ ?_
                  rotate_left
                  · show Act.put _ (some 6) _ = _
                    simp only [Act.put, List.setIfInBounds_toArray, List.set_cons_zero, List.set_cons_succ, i64_w, i32_w]
                    rfl
                  refine one_ (i := 9) (N := some 7) #[true, true, true, true, true, true, true, true, true, true, false, false] rfl rfl (one_of HT_.out (by kernel_rfl)) (by decide) (fun K hK => ?_)
                  refine box_step ?hg (N := 7) ?hd (cs := #[.int .i64 0, .string (⟨#[]⟩ : ByteArray), .string (⟨#[]⟩ : ByteArray), .slice none 0 0, .slice none 0 0, .slice none 0 0]) (t := 108) ?hr ?_; (case hd => rfl); (case hg => rfl); (case hr => first | (go_simp; done) | (go_simp; rfl))
                  intro gb109 hg w18 hbox hb
                  have n0_ := Aside0.mk (blk_below (g := gb108) (o := .cells #[.int .i64 0, .string (⟨#[]⟩ : ByteArray), .string (⟨#[]⟩ : ByteArray), .slice none 0 0, .slice none 0 0, .slice none 0 0] 108 (0, 0)) (by (with_reducible repeat (first | refine bN ?_ _ | refine bD ?_ | refine bA ?_ _)); exact BK108.out) hb)
                  have n1_ := Aside0.mk (below_step (by repeat (first | (with_reducible first | exact HB.out | apply below_alloc | apply wN | apply wD | refine below_set ?_ GE108.out) | exact HB.out)) hb)
                  have n2_ := Aside0.mk (hbox)
                  have n3_ := Aside0.mk ((by rw [hg]; exact (below_size (by repeat (first | (with_reducible first | exact HB.out | apply below_alloc | apply wN | apply wD | refine below_set ?_ GE108.out) | exact HB.out))) : w.heap.size ≤ gb109))
                  have n4_ := Aside0.mk ((by rw [hg]; exact (below_size (by repeat (first | (with_reducible first | exact HB.out | apply below_alloc | apply wN | apply wD | refine below_set ?_ GE108.out) | exact HB.out))) : w.heap.size ≤ gb109))
                  have n5_ := Aside0.mk ((by rw [hg]; exact Nat.ne_of_lt (blk_lt (g := gb108) (o := .cells #[.int .i64 0, .string (⟨#[]⟩ : ByteArray), .string (⟨#[]⟩ : ByteArray), .slice none 0 0, .slice none 0 0, .slice none 0 0] 108 (0, 0)) (by (with_reducible repeat (first | refine bN ?_ _ | refine bD ?_ | refine bA ?_ _)); exact BK108.out)) : gb108 ≠ gb109))
                  have n6_ := Aside0.mk ((by rw [hg]; exact Nat.ne_of_gt (blk_lt (g := gb108) (o := .cells #[.int .i64 0, .string (⟨#[]⟩ : ByteArray), .string (⟨#[]⟩ : ByteArray), .slice none 0 0, .slice none 0 0, .slice none 0 0] 108 (0, 0)) (by (with_reducible repeat (first | refine bN ?_ _ | refine bD ?_ | refine bA ?_ _)); exact BK108.out)) : gb109 ≠ gb108))
                  clear BK108
                  clear HB
                  have BK108 := n0_
                  have HB := n1_
                  have BK109 := n2_
                  have GW109 := n3_
                  have GE109 := n4_
                  have NB108_109 := n5_
                  have NB109_108 := n6_
                  clear n0_ n1_ n2_ n3_ n4_ n5_ n6_
                  clear hb hbox hg
                  refine hK.out _ _ ⟨((HB.out.cell (World.block_lt_of_cell? w _ hw106_0)).trans hw106_0), ((HB.out.cell (World.block_lt_of_cell? w _ hw106_1)).trans hw106_1), ((HB.out.cell (World.block_lt_of_cell? w _ hw106_2)).trans hw106_2), ((HB.out.cell (World.block_lt_of_cell? w _ hw106_3)).trans hw106_3), ((HB.out.cell (World.block_lt_of_cell? w _ hw106_4)).trans hw106_4), ((HB.out.cell (World.block_lt_of_cell? w _ hw106_5)).trans hw106_5), ((HB.out.cell (World.block_lt_of_cell? w _ hw107_0)).trans hw107_0), ((HB.out.cell (World.block_lt_of_cell? w _ hw107_1)).trans hw107_1), ((HB.out.cell (World.block_lt_of_cell? w _ hw107_2)).trans hw107_2), ((HB.out.cell (World.block_lt_of_cell? w _ hw107_3)).trans hw107_3), ((HB.out.cell (World.block_lt_of_cell? w _ hw107_4)).trans hw107_4), ((HB.out.cell (World.block_lt_of_cell? w _ hw107_5)).trans hw107_5)⟩ (fun hHeld => ?_)
                  clear hK K
                  refine norm_ (a' := ?_) ?_ ?_
                  rotate_left
                  · show Act.put _ (some 7) _ = _
                    simp only [Act.put, List.setIfInBounds_toArray, List.set_cons_zero, List.set_cons_succ, i64_w, i32_w]
                    rfl
                  exact norm_ (by simp only [putAll, Act.put, List.setIfInBounds_toArray, List.set_cons_zero, List.set_cons_succ]) (hCont (gb108, gb109) _ ⟨hHeld, (by (with_reducible repeat (first | refine bN ?_ _ | refine bD ?_ | refine bA ?_ _)); exact BK108.out), (by (with_reducible repeat (first | refine bN ?_ _ | refine bD ?_ | refine bA ?_ _)); exact BK109.out), GW108.out, GE108.out, NB109_108.out, NB108_109.out, GW109.out, GE109.out, (by repeat (first | (with_reducible first | exact HB.out | apply below_alloc | apply wN | apply wD | refine below_set ?_ GE108.out | refine below_set ?_ GE109.out) | exact HB.out))⟩)
                · skip
                  refine box_step ?hg (N := 7) ?hd (cs := #[.int .i64 0, .string (⟨#[]⟩ : ByteArray), .string (⟨#[]⟩ : ByteArray), .slice none 0 0, .slice none 0 0, .slice none 0 0]) (t := 108) ?hr ?_; (case hd => rfl); (case hg => rfl); (case hr => first | (go_simp; done) | (go_simp; rfl))
                  intro gb109 hg w17 hbox hb
                  have n0_ := Aside0.mk (below_step (by repeat (first | (with_reducible first | exact HB.out | apply below_alloc | apply wN | apply wD) | exact HB.out)) hb)
                  have n1_ := Aside0.mk (hbox)
                  have n2_ := Aside0.mk ((by rw [hg]; exact (below_size (by repeat (first | (with_reducible first | exact HB.out | apply below_alloc | apply wN | apply wD) | exact HB.out))) : w.heap.size ≤ gb109))
                  have n3_ := Aside0.mk ((by rw [hg]; exact (below_size (by repeat (first | (with_reducible first | exact HB.out | apply below_alloc | apply wN | apply wD) | exact HB.out))) : w.heap.size ≤ gb109))
                  clear HB
                  have HB := n0_
                  have BK109 := n1_
                  have GW109 := n2_
                  have GE109 := n3_
                  clear n0_ n1_ n2_ n3_
                  clear hb hbox hg
                  refine hK.out _ _ ⟨((HB.out.cell (World.block_lt_of_cell? w _ hw106_0)).trans hw106_0), ((HB.out.cell (World.block_lt_of_cell? w _ hw106_1)).trans hw106_1), ((HB.out.cell (World.block_lt_of_cell? w _ hw106_2)).trans hw106_2), ((HB.out.cell (World.block_lt_of_cell? w _ hw106_3)).trans hw106_3), ((HB.out.cell (World.block_lt_of_cell? w _ hw106_4)).trans hw106_4), ((HB.out.cell (World.block_lt_of_cell? w _ hw106_5)).trans hw106_5), ((HB.out.cell (World.block_lt_of_cell? w _ hw107_0)).trans hw107_0), ((HB.out.cell (World.block_lt_of_cell? w _ hw107_1)).trans hw107_1), ((HB.out.cell (World.block_lt_of_cell? w _ hw107_2)).trans hw107_2), ((HB.out.cell (World.block_lt_of_cell? w _ hw107_3)).trans hw107_3), ((HB.out.cell (World.block_lt_of_cell? w _ hw107_4)).trans hw107_4), ((HB.out.cell (World.block_lt_of_cell? w _ hw107_5)).trans hw107_5)⟩ (fun hHeld => ?_)
                  clear hK K
                  refine norm_ (a' := ?_) ?_ ?_
                  rotate_left
                  · show Act.put _ (some 7) _ = _
                    simp only [Act.put, List.setIfInBounds_toArray, List.set_cons_zero, List.set_cons_succ, i64_w, i32_w]
                    rfl
                  refine one_ (i := 8) (N := some 6) #[true, true, true, true, true, true, true, true, true, true, false, false] rfl rfl (one_of HT_.out (by kernel_rfl)) (by decide) (fun K hK => ?_)
                  refine box_step ?hg (N := 6) ?hd (cs := #[.int .i64 0, .string (⟨#[]⟩ : ByteArray), .string (⟨#[]⟩ : ByteArray), .slice none 0 0, .slice none 0 0, .slice none 0 0]) (t := 108) ?hr ?_; (case hd => rfl); (case hg => rfl); (case hr => first | (go_simp; done) | (go_simp; rfl))
                  intro gb108 hg w18 hbox hb
                  have n0_ := Aside0.mk (blk_below (g := gb109) (o := .cells #[.int .i64 0, .string (⟨#[]⟩ : ByteArray), .string (⟨#[]⟩ : ByteArray), .slice none 0 0, .slice none 0 0, .slice none 0 0] 108 (0, 0)) (by (with_reducible repeat (first | refine bN ?_ _ | refine bD ?_ | refine bA ?_ _)); exact BK109.out) hb)
                  have n1_ := Aside0.mk (below_step (by repeat (first | (with_reducible first | exact HB.out | apply below_alloc | apply wN | apply wD | refine below_set ?_ GE109.out) | exact HB.out)) hb)
                  have n2_ := Aside0.mk (hbox)
                  have n3_ := Aside0.mk ((by rw [hg]; exact (below_size (by repeat (first | (with_reducible first | exact HB.out | apply below_alloc | apply wN | apply wD | refine below_set ?_ GE109.out) | exact HB.out))) : w.heap.size ≤ gb108))
                  have n4_ := Aside0.mk ((by rw [hg]; exact (below_size (by repeat (first | (with_reducible first | exact HB.out | apply below_alloc | apply wN | apply wD | refine below_set ?_ GE109.out) | exact HB.out))) : w.heap.size ≤ gb108))
                  have n5_ := Aside0.mk ((by rw [hg]; exact Nat.ne_of_lt (blk_lt (g := gb109) (o := .cells #[.int .i64 0, .string (⟨#[]⟩ : ByteArray), .string (⟨#[]⟩ : ByteArray), .slice none 0 0, .slice none 0 0, .slice none 0 0] 108 (0, 0)) (by (with_reducible repeat (first | refine bN ?_ _ | refine bD ?_ | refine bA ?_ _)); exact BK109.out)) : gb109 ≠ gb108))
                  have n6_ := Aside0.mk ((by rw [hg]; exact Nat.ne_of_gt (blk_lt (g := gb109) (o := .cells #[.int .i64 0, .string (⟨#[]⟩ : ByteArray), .string (⟨#[]⟩ : ByteArray), .slice none 0 0, .slice none 0 0, .slice none 0 0] 108 (0, 0)) (by (with_reducible repeat (first | refine bN ?_ _ | refine bD ?_ | refine bA ?_ _)); exact BK109.out)) : gb108 ≠ gb109))
                  clear BK109
                  clear HB
                  have BK109 := n0_
                  have HB := n1_
                  have BK108 := n2_
                  have GW108 := n3_
                  have GE108 := n4_
                  have NB109_108 := n5_
                  have NB108_109 := n6_
                  clear n0_ n1_ n2_ n3_ n4_ n5_ n6_
                  clear hb hbox hg
                  refine hK.out _ _ ⟨((HB.out.cell (World.block_lt_of_cell? w _ hw106_0)).trans hw106_0), ((HB.out.cell (World.block_lt_of_cell? w _ hw106_1)).trans hw106_1), ((HB.out.cell (World.block_lt_of_cell? w _ hw106_2)).trans hw106_2), ((HB.out.cell (World.block_lt_of_cell? w _ hw106_3)).trans hw106_3), ((HB.out.cell (World.block_lt_of_cell? w _ hw106_4)).trans hw106_4), ((HB.out.cell (World.block_lt_of_cell? w _ hw106_5)).trans hw106_5), ((HB.out.cell (World.block_lt_of_cell? w _ hw107_0)).trans hw107_0), ((HB.out.cell (World.block_lt_of_cell? w _ hw107_1)).trans hw107_1), ((HB.out.cell (World.block_lt_of_cell? w _ hw107_2)).trans hw107_2), ((HB.out.cell (World.block_lt_of_cell? w _ hw107_3)).trans hw107_3), ((HB.out.cell (World.block_lt_of_cell? w _ hw107_4)).trans hw107_4), ((HB.out.cell (World.block_lt_of_cell? w _ hw107_5)).trans hw107_5)⟩ (fun hHeld => ?_)
                  clear hK K
                  refine norm_ (a' := ?_) ?_ ?_
                  rotate_left
                  · show Act.put _ (some 6) _ = _
                    simp only [Act.put, List.setIfInBounds_toArray, List.set_cons_zero, List.set_cons_succ, i64_w, i32_w]
                    rfl
                  exact norm_ (by simp only [putAll, Act.put, List.setIfInBounds_toArray, List.set_cons_zero, List.set_cons_succ]) (hCont (gb108, gb109) _ ⟨hHeld, (by (with_reducible repeat (first | refine bN ?_ _ | refine bD ?_ | refine bA ?_ _)); exact BK108.out), (by (with_reducible repeat (first | refine bN ?_ _ | refine bD ?_ | refine bA ?_ _)); exact BK109.out), GW108.out, GE108.out, NB109_108.out, NB108_109.out, GW109.out, GE109.out, (by repeat (first | (with_reducible first | exact HB.out | apply below_alloc | apply wN | apply wD | refine below_set ?_ GE109.out | refine below_set ?_ GE108.out) | exact HB.out))⟩)
              rintro ⟨gb108, gb109⟩ w19 ⟨hS_, h0_, h1_, h2_, h3_, h4_, h5_, h6_, h7_, h8_⟩
              have n0_ : Aside0 (w19.heap[gb108]? = some (.cells #[.int .i64 0, .string (⟨#[]⟩ : ByteArray), .string (⟨#[]⟩ : ByteArray), .slice none 0 0, .slice none 0 0, .slice none 0 0] 108 (0, 0))) := ⟨h0_⟩
              have n1_ : Aside0 (w19.heap[gb109]? = some (.cells #[.int .i64 0, .string (⟨#[]⟩ : ByteArray), .string (⟨#[]⟩ : ByteArray), .slice none 0 0, .slice none 0 0, .slice none 0 0] 108 (0, 0))) := ⟨h1_⟩
              have n2_ : Aside0 (w.heap.size ≤ gb108) := ⟨h2_⟩
              have n3_ : Aside0 (w.heap.size ≤ gb108) := ⟨h3_⟩
              have n4_ : Aside0 (gb109 ≠ gb108) := ⟨h4_⟩
              have n5_ : Aside0 (gb108 ≠ gb109) := ⟨h5_⟩
              have n6_ : Aside0 (w.heap.size ≤ gb109) := ⟨h6_⟩
              have n7_ : Aside0 (w.heap.size ≤ gb109) := ⟨h7_⟩
              have n8_ : Aside0 (Below w.heap.size w w19) := ⟨h8_⟩
              clear HB
              clear h0_ h1_ h2_ h3_ h4_ h5_ h6_ h7_ h8_
              have BK108 := n0_
              have BK109 := n1_
              have GW108 := n2_
              have GE108 := n3_
              have NB109_108 := n4_
              have NB108_109 := n5_
              have GW109 := n6_
              have GE109 := n7_
              have HB := n8_
              clear n0_ n1_ n2_ n3_ n4_ n5_ n6_ n7_ n8_
              have hHeld : w19.cell? (ad106.add ((x5_1).toNat * 6)) = some (.int .i64 ((rd_T108 l0 x5_1).f0)) ∧ w19.cell? ⟨(ad106.add ((x5_1).toNat * 6)).block, (ad106.add ((x5_1).toNat * 6)).off + 1, none⟩ = some (.string ((rd_T108 l0 x5_1).f1)) ∧ w19.cell? ⟨(ad106.add ((x5_1).toNat * 6)).block, (ad106.add ((x5_1).toNat * 6)).off + 2, none⟩ = some (.string ((rd_T108 l0 x5_1).f2)) ∧ w19.cell? ⟨(ad106.add ((x5_1).toNat * 6)).block, (ad106.add ((x5_1).toNat * 6)).off + 3, none⟩ = some (.slice A106_3 ((rd_T108 l0 x5_1).f3).length c106_3) ∧ w19.cell? ⟨(ad106.add ((x5_1).toNat * 6)).block, (ad106.add ((x5_1).toNat * 6)).off + 4, none⟩ = some (.slice A106_4 ((rd_T108 l0 x5_1).f4).length c106_4) ∧ w19.cell? ⟨(ad106.add ((x5_1).toNat * 6)).block, (ad106.add ((x5_1).toNat * 6)).off + 5, none⟩ = some (.slice A106_5 ((rd_T108 l0 x5_1).f5).length c106_5) ∧ w19.cell? (ad107.add ((x5_1).toNat * 6)) = some (.int .i64 ((rd_T108 l1 x5_1).f0)) ∧ w19.cell? ⟨(ad107.add ((x5_1).toNat * 6)).block, (ad107.add ((x5_1).toNat * 6)).off + 1, none⟩ = some (.string ((rd_T108 l1 x5_1).f1)) ∧ w19.cell? ⟨(ad107.add ((x5_1).toNat * 6)).block, (ad107.add ((x5_1).toNat * 6)).off + 2, none⟩ = some (.string ((rd_T108 l1 x5_1).f2)) ∧ w19.cell? ⟨(ad107.add ((x5_1).toNat * 6)).block, (ad107.add ((x5_1).toNat * 6)).off + 3, none⟩ = some (.slice A107_3 ((rd_T108 l1 x5_1).f3).length c107_3) ∧ w19.cell? ⟨(ad107.add ((x5_1).toNat * 6)).block, (ad107.add ((x5_1).toNat * 6)).off + 4, none⟩ = some (.slice A107_4 ((rd_T108 l1 x5_1).f4).length c107_4) ∧ w19.cell? ⟨(ad107.add ((x5_1).toNat * 6)).block, (ad107.add ((x5_1).toNat * 6)).off + 5, none⟩ = some (.slice A107_5 ((rd_T108 l1 x5_1).f5).length c107_5) := hS_
              refine norm_ (a' := ?_) ?_ ?_
              rotate_left
              · simp only [putAll, Act.put, List.setIfInBounds_toArray, List.set_cons_zero, List.set_cons_succ]
                rfl
              refine one_ (i := 10) (N := none) #[true, true, true, true, true, true, true, true, true, true, true, false] rfl rfl (one_of HT_.out (by kernel_rfl)) (by decide) (fun K hK => ?_)
              have hs20 : w19.cell? ⟨gb108, 0, none⟩ = some (.int .i64 0) := (blk_cell BK108.out 0).trans rfl
              have hfs20 := blk_frozen BK108.out 0
              have hns20_1 := NB109_108.out
              have hms20_1 := NB108_109.out
              have hs21 : w19.cell? ⟨gb108, 1, none⟩ = some (.string (⟨#[]⟩ : ByteArray)) := (blk_cell BK108.out 1).trans rfl
              have hfs21 := blk_frozen BK108.out 1
              have hns21_1 := NB109_108.out
              have hms21_1 := NB108_109.out
              have hs22 : w19.cell? ⟨gb108, 2, none⟩ = some (.string (⟨#[]⟩ : ByteArray)) := (blk_cell BK108.out 2).trans rfl
              have hfs22 := blk_frozen BK108.out 2
              have hns22_1 := NB109_108.out
              have hms22_1 := NB108_109.out
              have hs23 : w19.cell? ⟨gb108, 3, none⟩ = some (.slice none 0 0) := (blk_cell BK108.out 3).trans rfl
              have hfs23 := blk_frozen BK108.out 3
              have hns23_1 := NB109_108.out
              have hms23_1 := NB108_109.out
              have hs24 : w19.cell? ⟨gb108, 4, none⟩ = some (.slice none 0 0) := (blk_cell BK108.out 4).trans rfl
              have hfs24 := blk_frozen BK108.out 4
              have hns24_1 := NB109_108.out
              have hms24_1 := NB108_109.out
              have hs25 : w19.cell? ⟨gb108, 5, none⟩ = some (.slice none 0 0) := (blk_cell BK108.out 5).trans rfl
              have hfs25 := blk_frozen BK108.out 5
              have hns25_1 := NB109_108.out
              have hms25_1 := NB108_109.out
              refine skip_ (w1 := ?_) (by rfl) rfl ?_ ?_
              rotate_left
              · go_simp
                rfl
              refine hK.out _ _ ⟨((cell_far (p := ⟨gb108, _, none⟩) (fx hw106_0 GW108.out) _).trans (((cell_far (p := ⟨gb108, _, none⟩) (fx hw106_0 GW108.out) _).trans (((cell_far (p := ⟨gb108, _, none⟩) (fx hw106_0 GW108.out) _).trans (((cell_far (p := ⟨gb108, _, none⟩) (fx hw106_0 GW108.out) _).trans (((cell_far (p := ⟨gb108, _, none⟩) (fx hw106_0 GW108.out) _).trans (((cell_far (p := ⟨gb108, _, none⟩) (fx hw106_0 GW108.out) _).trans (hHeld.1)))))))))))), ((cell_far (p := ⟨gb108, _, none⟩) (fx hw106_1 GW108.out) _).trans (((cell_far (p := ⟨gb108, _, none⟩) (fx hw106_1 GW108.out) _).trans (((cell_far (p := ⟨gb108, _, none⟩) (fx hw106_1 GW108.out) _).trans (((cell_far (p := ⟨gb108, _, none⟩) (fx hw106_1 GW108.out) _).trans (((cell_far (p := ⟨gb108, _, none⟩) (fx hw106_1 GW108.out) _).trans (((cell_far (p := ⟨gb108, _, none⟩) (fx hw106_1 GW108.out) _).trans (hHeld.2.1)))))))))))), ((cell_far (p := ⟨gb108, _, none⟩) (fx hw106_2 GW108.out) _).trans (((cell_far (p := ⟨gb108, _, none⟩) (fx hw106_2 GW108.out) _).trans (((cell_far (p := ⟨gb108, _, none⟩) (fx hw106_2 GW108.out) _).trans (((cell_far (p := ⟨gb108, _, none⟩) (fx hw106_2 GW108.out) _).trans (((cell_far (p := ⟨gb108, _, none⟩) (fx hw106_2 GW108.out) _).trans (((cell_far (p := ⟨gb108, _, none⟩) (fx hw106_2 GW108.out) _).trans (hHeld.2.2.1)))))))))))), ((cell_far (p := ⟨gb108, _, none⟩) (fx hw106_3 GW108.out) _).trans (((cell_far (p := ⟨gb108, _, none⟩) (fx hw106_3 GW108.out) _).trans (((cell_far (p := ⟨gb108, _, none⟩) (fx hw106_3 GW108.out) _).trans (((cell_far (p := ⟨gb108, _, none⟩) (fx hw106_3 GW108.out) _).trans (((cell_far (p := ⟨gb108, _, none⟩) (fx hw106_3 GW108.out) _).trans (((cell_far (p := ⟨gb108, _, none⟩) (fx hw106_3 GW108.out) _).trans (hHeld.2.2.2.1)))))))))))), ((cell_far (p := ⟨gb108, _, none⟩) (fx hw106_4 GW108.out) _).trans (((cell_far (p := ⟨gb108, _, none⟩) (fx hw106_4 GW108.out) _).trans (((cell_far (p := ⟨gb108, _, none⟩) (fx hw106_4 GW108.out) _).trans (((cell_far (p := ⟨gb108, _, none⟩) (fx hw106_4 GW108.out) _).trans (((cell_far (p := ⟨gb108, _, none⟩) (fx hw106_4 GW108.out) _).trans (((cell_far (p := ⟨gb108, _, none⟩) (fx hw106_4 GW108.out) _).trans (hHeld.2.2.2.2.1)))))))))))), ((cell_far (p := ⟨gb108, _, none⟩) (fx hw106_5 GW108.out) _).trans (((cell_far (p := ⟨gb108, _, none⟩) (fx hw106_5 GW108.out) _).trans (((cell_far (p := ⟨gb108, _, none⟩) (fx hw106_5 GW108.out) _).trans (((cell_far (p := ⟨gb108, _, none⟩) (fx hw106_5 GW108.out) _).trans (((cell_far (p := ⟨gb108, _, none⟩) (fx hw106_5 GW108.out) _).trans (((cell_far (p := ⟨gb108, _, none⟩) (fx hw106_5 GW108.out) _).trans (hHeld.2.2.2.2.2.1)))))))))))), ((cell_far (p := ⟨gb108, _, none⟩) (fx hw107_0 GW108.out) _).trans (((cell_far (p := ⟨gb108, _, none⟩) (fx hw107_0 GW108.out) _).trans (((cell_far (p := ⟨gb108, _, none⟩) (fx hw107_0 GW108.out) _).trans (((cell_far (p := ⟨gb108, _, none⟩) (fx hw107_0 GW108.out) _).trans (((cell_far (p := ⟨gb108, _, none⟩) (fx hw107_0 GW108.out) _).trans (((cell_far (p := ⟨gb108, _, none⟩) (fx hw107_0 GW108.out) _).trans (hHeld.2.2.2.2.2.2.1)))))))))))), ((cell_far (p := ⟨gb108, _, none⟩) (fx hw107_1 GW108.out) _).trans (((cell_far (p := ⟨gb108, _, none⟩) (fx hw107_1 GW108.out) _).trans (((cell_far (p := ⟨gb108, _, none⟩) (fx hw107_1 GW108.out) _).trans (((cell_far (p := ⟨gb108, _, none⟩) (fx hw107_1 GW108.out) _).trans (((cell_far (p := ⟨gb108, _, none⟩) (fx hw107_1 GW108.out) _).trans (((cell_far (p := ⟨gb108, _, none⟩) (fx hw107_1 GW108.out) _).trans (hHeld.2.2.2.2.2.2.2.1)))))))))))), ((cell_far (p := ⟨gb108, _, none⟩) (fx hw107_2 GW108.out) _).trans (((cell_far (p := ⟨gb108, _, none⟩) (fx hw107_2 GW108.out) _).trans (((cell_far (p := ⟨gb108, _, none⟩) (fx hw107_2 GW108.out) _).trans (((cell_far (p := ⟨gb108, _, none⟩) (fx hw107_2 GW108.out) _).trans (((cell_far (p := ⟨gb108, _, none⟩) (fx hw107_2 GW108.out) _).trans (((cell_far (p := ⟨gb108, _, none⟩) (fx hw107_2 GW108.out) _).trans (hHeld.2.2.2.2.2.2.2.2.1)))))))))))), ((cell_far (p := ⟨gb108, _, none⟩) (fx hw107_3 GW108.out) _).trans (((cell_far (p := ⟨gb108, _, none⟩) (fx hw107_3 GW108.out) _).trans (((cell_far (p := ⟨gb108, _, none⟩) (fx hw107_3 GW108.out) _).trans (((cell_far (p := ⟨gb108, _, none⟩) (fx hw107_3 GW108.out) _).trans (((cell_far (p := ⟨gb108, _, none⟩) (fx hw107_3 GW108.out) _).trans (((cell_far (p := ⟨gb108, _, none⟩) (fx hw107_3 GW108.out) _).trans (hHeld.2.2.2.2.2.2.2.2.2.1)))))))))))), ((cell_far (p := ⟨gb108, _, none⟩) (fx hw107_4 GW108.out) _).trans (((cell_far (p := ⟨gb108, _, none⟩) (fx hw107_4 GW108.out) _).trans (((cell_far (p := ⟨gb108, _, none⟩) (fx hw107_4 GW108.out) _).trans (((cell_far (p := ⟨gb108, _, none⟩) (fx hw107_4 GW108.out) _).trans (((cell_far (p := ⟨gb108, _, none⟩) (fx hw107_4 GW108.out) _).trans (((cell_far (p := ⟨gb108, _, none⟩) (fx hw107_4 GW108.out) _).trans (hHeld.2.2.2.2.2.2.2.2.2.2.1)))))))))))), ((cell_far (p := ⟨gb108, _, none⟩) (fx hw107_5 GW108.out) _).trans (((cell_far (p := ⟨gb108, _, none⟩) (fx hw107_5 GW108.out) _).trans (((cell_far (p := ⟨gb108, _, none⟩) (fx hw107_5 GW108.out) _).trans (((cell_far (p := ⟨gb108, _, none⟩) (fx hw107_5 GW108.out) _).trans (((cell_far (p := ⟨gb108, _, none⟩) (fx hw107_5 GW108.out) _).trans (((cell_far (p := ⟨gb108, _, none⟩) (fx hw107_5 GW108.out) _).trans (hHeld.2.2.2.2.2.2.2.2.2.2.2))))))))))))⟩ (fun hHeld => ?_)
              clear hK K
              refine one_ (i := 11) (N := none) #[true, true, true, true, true, true, true, true, true, true, true, true] rfl rfl (one_of HT_.out (by kernel_rfl)) (by decide) (fun K hK => ?_)
              have hs26 : w19.cell? ⟨gb109, 0, none⟩ = some (.int .i64 0) := (blk_cell BK109.out 0).trans rfl
              have hfs26 := blk_frozen BK109.out 0
              have hns26_0 := NB108_109.out
              have hms26_0 := NB109_108.out
              have hs27 : w19.cell? ⟨gb109, 1, none⟩ = some (.string (⟨#[]⟩ : ByteArray)) := (blk_cell BK109.out 1).trans rfl
              have hfs27 := blk_frozen BK109.out 1
              have hns27_0 := NB108_109.out
              have hms27_0 := NB109_108.out
              have hs28 : w19.cell? ⟨gb109, 2, none⟩ = some (.string (⟨#[]⟩ : ByteArray)) := (blk_cell BK109.out 2).trans rfl
              have hfs28 := blk_frozen BK109.out 2
              have hns28_0 := NB108_109.out
              have hms28_0 := NB109_108.out
              have hs29 : w19.cell? ⟨gb109, 3, none⟩ = some (.slice none 0 0) := (blk_cell BK109.out 3).trans rfl
              have hfs29 := blk_frozen BK109.out 3
              have hns29_0 := NB108_109.out
              have hms29_0 := NB109_108.out
              have hs30 : w19.cell? ⟨gb109, 4, none⟩ = some (.slice none 0 0) := (blk_cell BK109.out 4).trans rfl
              have hfs30 := blk_frozen BK109.out 4
              have hns30_0 := NB108_109.out
              have hms30_0 := NB109_108.out
              have hs31 : w19.cell? ⟨gb109, 5, none⟩ = some (.slice none 0 0) := (blk_cell BK109.out 5).trans rfl
              have hfs31 := blk_frozen BK109.out 5
              have hns31_0 := NB108_109.out
              have hms31_0 := NB109_108.out
              refine skip_ (w1 := ?_) (by rfl) rfl ?_ ?_
              rotate_left
              · go_simp
                rfl
              refine hK.out _ _ ⟨((cell_far (p := ⟨gb109, _, none⟩) (fx hw106_0 GW109.out) _).trans (((cell_far (p := ⟨gb109, _, none⟩) (fx hw106_0 GW109.out) _).trans (((cell_far (p := ⟨gb109, _, none⟩) (fx hw106_0 GW109.out) _).trans (((cell_far (p := ⟨gb109, _, none⟩) (fx hw106_0 GW109.out) _).trans (((cell_far (p := ⟨gb109, _, none⟩) (fx hw106_0 GW109.out) _).trans (((cell_far (p := ⟨gb109, _, none⟩) (fx hw106_0 GW109.out) _).trans (hHeld.1)))))))))))), ((cell_far (p := ⟨gb109, _, none⟩) (fx hw106_1 GW109.out) _).trans (((cell_far (p := ⟨gb109, _, none⟩) (fx hw106_1 GW109.out) _).trans (((cell_far (p := ⟨gb109, _, none⟩) (fx hw106_1 GW109.out) _).trans (((cell_far (p := ⟨gb109, _, none⟩) (fx hw106_1 GW109.out) _).trans (((cell_far (p := ⟨gb109, _, none⟩) (fx hw106_1 GW109.out) _).trans (((cell_far (p := ⟨gb109, _, none⟩) (fx hw106_1 GW109.out) _).trans (hHeld.2.1)))))))))))), ((cell_far (p := ⟨gb109, _, none⟩) (fx hw106_2 GW109.out) _).trans (((cell_far (p := ⟨gb109, _, none⟩) (fx hw106_2 GW109.out) _).trans (((cell_far (p := ⟨gb109, _, none⟩) (fx hw106_2 GW109.out) _).trans (((cell_far (p := ⟨gb109, _, none⟩) (fx hw106_2 GW109.out) _).trans (((cell_far (p := ⟨gb109, _, none⟩) (fx hw106_2 GW109.out) _).trans (((cell_far (p := ⟨gb109, _, none⟩) (fx hw106_2 GW109.out) _).trans (hHeld.2.2.1)))))))))))), ((cell_far (p := ⟨gb109, _, none⟩) (fx hw106_3 GW109.out) _).trans (((cell_far (p := ⟨gb109, _, none⟩) (fx hw106_3 GW109.out) _).trans (((cell_far (p := ⟨gb109, _, none⟩) (fx hw106_3 GW109.out) _).trans (((cell_far (p := ⟨gb109, _, none⟩) (fx hw106_3 GW109.out) _).trans (((cell_far (p := ⟨gb109, _, none⟩) (fx hw106_3 GW109.out) _).trans (((cell_far (p := ⟨gb109, _, none⟩) (fx hw106_3 GW109.out) _).trans (hHeld.2.2.2.1)))))))))))), ((cell_far (p := ⟨gb109, _, none⟩) (fx hw106_4 GW109.out) _).trans (((cell_far (p := ⟨gb109, _, none⟩) (fx hw106_4 GW109.out) _).trans (((cell_far (p := ⟨gb109, _, none⟩) (fx hw106_4 GW109.out) _).trans (((cell_far (p := ⟨gb109, _, none⟩) (fx hw106_4 GW109.out) _).trans (((cell_far (p := ⟨gb109, _, none⟩) (fx hw106_4 GW109.out) _).trans (((cell_far (p := ⟨gb109, _, none⟩) (fx hw106_4 GW109.out) _).trans (hHeld.2.2.2.2.1)))))))))))), ((cell_far (p := ⟨gb109, _, none⟩) (fx hw106_5 GW109.out) _).trans (((cell_far (p := ⟨gb109, _, none⟩) (fx hw106_5 GW109.out) _).trans (((cell_far (p := ⟨gb109, _, none⟩) (fx hw106_5 GW109.out) _).trans (((cell_far (p := ⟨gb109, _, none⟩) (fx hw106_5 GW109.out) _).trans (((cell_far (p := ⟨gb109, _, none⟩) (fx hw106_5 GW109.out) _).trans (((cell_far (p := ⟨gb109, _, none⟩) (fx hw106_5 GW109.out) _).trans (hHeld.2.2.2.2.2.1)))))))))))), ((cell_far (p := ⟨gb109, _, none⟩) (fx hw107_0 GW109.out) _).trans (((cell_far (p := ⟨gb109, _, none⟩) (fx hw107_0 GW109.out) _).trans (((cell_far (p := ⟨gb109, _, none⟩) (fx hw107_0 GW109.out) _).trans (((cell_far (p := ⟨gb109, _, none⟩) (fx hw107_0 GW109.out) _).trans (((cell_far (p := ⟨gb109, _, none⟩) (fx hw107_0 GW109.out) _).trans (((cell_far (p := ⟨gb109, _, none⟩) (fx hw107_0 GW109.out) _).trans (hHeld.2.2.2.2.2.2.1)))))))))))), ((cell_far (p := ⟨gb109, _, none⟩) (fx hw107_1 GW109.out) _).trans (((cell_far (p := ⟨gb109, _, none⟩) (fx hw107_1 GW109.out) _).trans (((cell_far (p := ⟨gb109, _, none⟩) (fx hw107_1 GW109.out) _).trans (((cell_far (p := ⟨gb109, _, none⟩) (fx hw107_1 GW109.out) _).trans (((cell_far (p := ⟨gb109, _, none⟩) (fx hw107_1 GW109.out) _).trans (((cell_far (p := ⟨gb109, _, none⟩) (fx hw107_1 GW109.out) _).trans (hHeld.2.2.2.2.2.2.2.1)))))))))))), ((cell_far (p := ⟨gb109, _, none⟩) (fx hw107_2 GW109.out) _).trans (((cell_far (p := ⟨gb109, _, none⟩) (fx hw107_2 GW109.out) _).trans (((cell_far (p := ⟨gb109, _, none⟩) (fx hw107_2 GW109.out) _).trans (((cell_far (p := ⟨gb109, _, none⟩) (fx hw107_2 GW109.out) _).trans (((cell_far (p := ⟨gb109, _, none⟩) (fx hw107_2 GW109.out) _).trans (((cell_far (p := ⟨gb109, _, none⟩) (fx hw107_2 GW109.out) _).trans (hHeld.2.2.2.2.2.2.2.2.1)))))))))))), ((cell_far (p := ⟨gb109, _, none⟩) (fx hw107_3 GW109.out) _).trans (((cell_far (p := ⟨gb109, _, none⟩) (fx hw107_3 GW109.out) _).trans (((cell_far (p := ⟨gb109, _, none⟩) (fx hw107_3 GW109.out) _).trans (((cell_far (p := ⟨gb109, _, none⟩) (fx hw107_3 GW109.out) _).trans (((cell_far (p := ⟨gb109, _, none⟩) (fx hw107_3 GW109.out) _).trans (((cell_far (p := ⟨gb109, _, none⟩) (fx hw107_3 GW109.out) _).trans (hHeld.2.2.2.2.2.2.2.2.2.1)))))))))))), ((cell_far (p := ⟨gb109, _, none⟩) (fx hw107_4 GW109.out) _).trans (((cell_far (p := ⟨gb109, _, none⟩) (fx hw107_4 GW109.out) _).trans (((cell_far (p := ⟨gb109, _, none⟩) (fx hw107_4 GW109.out) _).trans (((cell_far (p := ⟨gb109, _, none⟩) (fx hw107_4 GW109.out) _).trans (((cell_far (p := ⟨gb109, _, none⟩) (fx hw107_4 GW109.out) _).trans (((cell_far (p := ⟨gb109, _, none⟩) (fx hw107_4 GW109.out) _).trans (hHeld.2.2.2.2.2.2.2.2.2.2.1)))))))))))), ((cell_far (p := ⟨gb109, _, none⟩) (fx hw107_5 GW109.out) _).trans (((cell_far (p := ⟨gb109, _, none⟩) (fx hw107_5 GW109.out) _).trans (((cell_far (p := ⟨gb109, _, none⟩) (fx hw107_5 GW109.out) _).trans (((cell_far (p := ⟨gb109, _, none⟩) (fx hw107_5 GW109.out) _).trans (((cell_far (p := ⟨gb109, _, none⟩) (fx hw107_5 GW109.out) _).trans (((cell_far (p := ⟨gb109, _, none⟩) (fx hw107_5 GW109.out) _).trans (hHeld.2.2.2.2.2.2.2.2.2.2.2))))))))))))⟩ (fun hHeld => ?_)
              clear hK K
              refine done_ (done_of HT_.out (by kernel_rfl)) ?_
              have hnb32 := NB108_109.out
              have hnc32 := NB109_108.out
              have hcz33_0 : w19.cell? ⟨gb108, 0, none⟩ = some (.int .i64 0) := (blk_cell BK108.out 0).trans rfl
              have hcz33_1 : w19.cell? ⟨gb108, 1, none⟩ = some (.string (⟨#[]⟩ : ByteArray)) := (blk_cell BK108.out 1).trans rfl
              have hcz33_2 : w19.cell? ⟨gb108, 2, none⟩ = some (.string (⟨#[]⟩ : ByteArray)) := (blk_cell BK108.out 2).trans rfl
              have hcz33_3 : w19.cell? ⟨gb108, 3, none⟩ = some (.slice none 0 0) := (blk_cell BK108.out 3).trans rfl
              have hcz33_4 : w19.cell? ⟨gb108, 4, none⟩ = some (.slice none 0 0) := (blk_cell BK108.out 4).trans rfl
              have hcz33_5 : w19.cell? ⟨gb108, 5, none⟩ = some (.slice none 0 0) := (blk_cell BK108.out 5).trans rfl
              have hfz33_0 := blk_frozen BK108.out 0
              have hfz33_1 := blk_frozen BK108.out 1
              have hfz33_2 := blk_frozen BK108.out 2
              have hfz33_3 := blk_frozen BK108.out 3
              have hfz33_4 := blk_frozen BK108.out 4
              have hfz33_5 := blk_frozen BK108.out 5
              have hcz34_0 : w19.cell? ⟨gb109, 0, none⟩ = some (.int .i64 0) := (blk_cell BK109.out 0).trans rfl
              have hcz34_1 : w19.cell? ⟨gb109, 1, none⟩ = some (.string (⟨#[]⟩ : ByteArray)) := (blk_cell BK109.out 1).trans rfl
              have hcz34_2 : w19.cell? ⟨gb109, 2, none⟩ = some (.string (⟨#[]⟩ : ByteArray)) := (blk_cell BK109.out 2).trans rfl
              have hcz34_3 : w19.cell? ⟨gb109, 3, none⟩ = some (.slice none 0 0) := (blk_cell BK109.out 3).trans rfl
              have hcz34_4 : w19.cell? ⟨gb109, 4, none⟩ = some (.slice none 0 0) := (blk_cell BK109.out 4).trans rfl
              have hcz34_5 : w19.cell? ⟨gb109, 5, none⟩ = some (.slice none 0 0) := (blk_cell BK109.out 5).trans rfl
              have hfz34_0 := blk_frozen BK109.out 0
              have hfz34_1 := blk_frozen BK109.out 1
              have hfz34_2 := blk_frozen BK109.out 2
              have hfz34_3 := blk_frozen BK109.out 3
              have hfz34_4 := blk_frozen BK109.out 4
              have hfz34_5 := blk_frozen BK109.out 5
              have H := HX_.out
              clear HX_
              by_cases c7 : ((rd_T108 l0 x5_1).f0) = ((rd_T108 l1 x5_1).f0)
              · rw [if_pos c7] at H
                have c7b0 : (((rd_T108 l0 x5_1).f0) == ((rd_T108 l1 x5_1).f0)) = true := beq_iff_eq.mpr c7
                have c7b1 : (((rd_T108 l0 x5_1).f0) != ((rd_T108 l1 x5_1).f0)) = false := bne_eq_false_iff_eq.mpr c7
                clear c7
                by_cases c8 : ((rd_T108 l0 x5_1).f1).toList = ((rd_T108 l1 x5_1).f1).toList
                · rw [if_pos c8] at H
                  have c8b0 : (((rd_T108 l0 x5_1).f1).toList == ((rd_T108 l1 x5_1).f1).toList) = true := beq_iff_eq.mpr c8
                  have c8b1 : (((rd_T108 l0 x5_1).f1).toList != ((rd_T108 l1 x5_1).f1).toList) = false := bne_eq_false_iff_eq.mpr c8
                  clear c8
                  by_cases c9 : ((rd_T108 l0 x5_1).f2).toList = ((rd_T108 l1 x5_1).f2).toList
                  · rw [if_pos c9] at H
                    have c9b0 : (((rd_T108 l0 x5_1).f2).toList == ((rd_T108 l1 x5_1).f2).toList) = true := beq_iff_eq.mpr c9
                    have c9b1 : (((rd_T108 l0 x5_1).f2).toList != ((rd_T108 l1 x5_1).f2).toList) = false := bne_eq_false_iff_eq.mpr c9
                    clear c9
                    replace H := Option.bind_eq_some_iff.mp H
                    obtain ⟨t110, A100, H⟩ := H
                    replace H : (if t110 = true then ((rS.f k1 ((rd_T108 l0 x5_1).f4) ((rd_T108 l1 x5_1).f4)).bind fun t111 => (if t111 = true then ((rS.f k1 ((rd_T108 l0 x5_1).f5) ((rd_T108 l1 x5_1).f5)).bind fun t112 => (if t112 = true then (rS.l0 k1 l0 l1 (wrap64 (x5_1 + 1))) else (some false))) else (some false))) else (some false)) = some r := H
                    have A10 := Aside0.mk A100
                    clear A100
                    by_cases c11 : t110 = true
                    · subst c11
                      have H1 : ((rS.f k1 ((rd_T108 l0 x5_1).f4) ((rd_T108 l1 x5_1).f4)).bind fun t111 => (if t111 = true then ((rS.f k1 ((rd_T108 l0 x5_1).f5) ((rd_T108 l1 x5_1).f5)).bind fun t112 => (if t112 = true then (rS.l0 k1 l0 l1 (wrap64 (x5_1 + 1))) else (some false))) else (some false))) = some r := by rw [if_pos rfl] at H; exact H
                      clear H
                      have H := H1
                      clear H1
                      replace H := Option.bind_eq_some_iff.mp H
                      obtain ⟨t111, A120, H⟩ := H
                      replace H : (if t111 = true then ((rS.f k1 ((rd_T108 l0 x5_1).f5) ((rd_T108 l1 x5_1).f5)).bind fun t112 => (if t112 = true then (rS.l0 k1 l0 l1 (wrap64 (x5_1 + 1))) else (some false))) else (some false)) = some r := H
                      have A12 := Aside0.mk A120
                      clear A120
                      by_cases c13 : t111 = true
                      · subst c13
                        have H1 : ((rS.f k1 ((rd_T108 l0 x5_1).f5) ((rd_T108 l1 x5_1).f5)).bind fun t112 => (if t112 = true then (rS.l0 k1 l0 l1 (wrap64 (x5_1 + 1))) else (some false))) = some r := by rw [if_pos rfl] at H; exact H
                        clear H
                        have H := H1
                        clear H1
                        replace H := Option.bind_eq_some_iff.mp H
                        obtain ⟨t112, A140, H⟩ := H
                        replace H : (if t112 = true then (rS.l0 k1 l0 l1 (wrap64 (x5_1 + 1))) else (some false)) = some r := H
                        have A14 := Aside0.mk A140
                        clear A140
                        by_cases c15 : t112 = true
                        · subst c15
                          have H1 : (rS.l0 k1 l0 l1 (wrap64 (x5_1 + 1))) = some r := by rw [if_pos rfl] at H; exact H
                          clear H
                          have H := H1
                          clear H1
                          have H' := Aside0.mk H
                          clear H
                          try go_wp2_with (first | (go_at_call 65; (with_reducible refine (rE.calls k1 _ _ ((rd_T108 l0 x5_1).f3) _ _ ((rd_T108 l1 x5_1).f3) true _ ?side1 ?side2 ?side3 ?side4 A10.out).mono ?_); (case side1 => exact Kd.C_below HR106_3.out (by repeat (first | (with_reducible first | exact HB.out | apply below_alloc | apply wN | apply wD | refine below_set ?_ GE108.out | refine below_set ?_ GE109.out) | exact HB.out))); (case side2 => exact HC106_3.out); (case side3 => exact Kd.C_below HR107_3.out (by repeat (first | (with_reducible first | exact HB.out | apply below_alloc | apply wN | apply wD | refine below_set ?_ GE108.out | refine below_set ?_ GE109.out) | exact HB.out))); (case side4 => exact HC107_3.out); rintro e w35 ⟨rfl, hb⟩; have n0_ := Aside0.mk (blk_below (g := gb108) (o := .cells #[.int .i64 ((rd_T108 l0 x5_1).f0), .string ((rd_T108 l0 x5_1).f1), .string ((rd_T108 l0 x5_1).f2), .slice A106_3 ((rd_T108 l0 x5_1).f3).length c106_3, .slice A106_4 ((rd_T108 l0 x5_1).f4).length c106_4, .slice A106_5 ((rd_T108 l0 x5_1).f5).length c106_5] 108 (0, 0)) (by (with_reducible repeat (first | refine bN ?_ _ | refine bD ?_ | refine bA ?_ _)); refine blk_far ?_ NB108_109.out _; (with_reducible repeat (first | refine bN ?_ _ | refine bD ?_ | refine bA ?_ _)); refine blk_far ?_ NB108_109.out _; (with_reducible repeat (first | refine bN ?_ _ | refine bD ?_ | refine bA ?_ _)); refine blk_far ?_ NB108_109.out _; (with_reducible repeat (first | refine bN ?_ _ | refine bD ?_ | refine bA ?_ _)); refine blk_far ?_ NB108_109.out _; (with_reducible repeat (first | refine bN ?_ _ | refine bD ?_ | refine bA ?_ _)); refine blk_far ?_ NB108_109.out _; (with_reducible repeat (first | refine bN ?_ _ | refine bD ?_ | refine bA ?_ _)); refine blk_far ?_ NB108_109.out _; (with_reducible repeat (first | refine bN ?_ _ | refine bD ?_ | refine bA ?_ _)); refine blk_put (cs := #[.int .i64 ((rd_T108 l0 x5_1).f0), .string ((rd_T108 l0 x5_1).f1), .string ((rd_T108 l0 x5_1).f2), .slice A106_3 ((rd_T108 l0 x5_1).f3).length c106_3, .slice A106_4 ((rd_T108 l0 x5_1).f4).length c106_4, .slice none 0 0]) ?_ 5 _ rfl; (with_reducible repeat (first | refine bN ?_ _ | refine bD ?_ | refine bA ?_ _)); refine blk_put (cs := #[.int .i64 ((rd_T108 l0 x5_1).f0), .string ((rd_T108 l0 x5_1).f1), .string ((rd_T108 l0 x5_1).f2), .slice A106_3 ((rd_T108 l0 x5_1).f3).length c106_3, .slice none 0 0, .slice none 0 0]) ?_ 4 _ rfl; (with_reducible repeat (first | refine bN ?_ _ | refine bD ?_ | refine bA ?_ _)); refine blk_put (cs := #[.int .i64 ((rd_T108 l0 x5_1).f0), .string ((rd_T108 l0 x5_1).f1), .string ((rd_T108 l0 x5_1).f2), .slice none 0 0, .slice none 0 0, .slice none 0 0]) ?_ 3 _ rfl; (with_reducible repeat (first | refine bN ?_ _ | refine bD ?_ | refine bA ?_ _)); refine blk_put (cs := #[.int .i64 ((rd_T108 l0 x5_1).f0), .string ((rd_T108 l0 x5_1).f1), .string (⟨#[]⟩ : ByteArray), .slice none 0 0, .slice none 0 0, .slice none 0 0]) ?_ 2 _ rfl; (with_reducible repeat (first | refine bN ?_ _ | refine bD ?_ | refine bA ?_ _)); refine blk_put (cs := #[.int .i64 ((rd_T108 l0 x5_1).f0), .string (⟨#[]⟩ : ByteArray), .string (⟨#[]⟩ : ByteArray), .slice none 0 0, .slice none 0 0, .slice none 0 0]) ?_ 1 _ rfl; (with_reducible repeat (first | refine bN ?_ _ | refine bD ?_ | refine bA ?_ _)); refine blk_put (cs := #[.int .i64 0, .string (⟨#[]⟩ : ByteArray), .string (⟨#[]⟩ : ByteArray), .slice none 0 0, .slice none 0 0, .slice none 0 0]) ?_ 0 _ rfl; (with_reducible repeat (first | refine bN ?_ _ | refine bD ?_ | refine bA ?_ _)); exact BK108.out) hb); have n1_ := Aside0.mk (blk_below (g := gb109) (o := .cells #[.int .i64 ((rd_T108 l1 x5_1).f0), .string ((rd_T108 l1 x5_1).f1), .string ((rd_T108 l1 x5_1).f2), .slice A107_3 ((rd_T108 l1 x5_1).f3).length c107_3, .slice A107_4 ((rd_T108 l1 x5_1).f4).length c107_4, .slice A107_5 ((rd_T108 l1 x5_1).f5).length c107_5] 108 (0, 0)) (by (with_reducible repeat (first | refine bN ?_ _ | refine bD ?_ | refine bA ?_ _)); refine blk_put (cs := #[.int .i64 ((rd_T108 l1 x5_1).f0), .string ((rd_T108 l1 x5_1).f1), .string ((rd_T108 l1 x5_1).f2), .slice A107_3 ((rd_T108 l1 x5_1).f3).length c107_3, .slice A107_4 ((rd_T108 l1 x5_1).f4).length c107_4, .slice none 0 0]) ?_ 5 _ rfl; (with_reducible repeat (first | refine bN ?_ _ | refine bD ?_ | refine bA ?_ _)); refine blk_put (cs := #[.int .i64 ((rd_T108 l1 x5_1).f0), .string ((rd_T108 l1 x5_1).f1), .string ((rd_T108 l1 x5_1).f2), .slice A107_3 ((rd_T108 l1 x5_1).f3).length c107_3, .slice none 0 0, .slice none 0 0]) ?_ 4 _ rfl; (with_reducible repeat (first | refine bN ?_ _ | refine bD ?_ | refine bA ?_ _)); refine blk_put (cs := #[.int .i64 ((rd_T108 l1 x5_1).f0), .string ((rd_T108 l1 x5_1).f1), .string ((rd_T108 l1 x5_1).f2), .slice none 0 0, .slice none 0 0, .slice none 0 0]) ?_ 3 _ rfl; (with_reducible repeat (first | refine bN ?_ _ | refine bD ?_ | refine bA ?_ _)); refine blk_put (cs := #[.int .i64 ((rd_T108 l1 x5_1).f0), .string ((rd_T108 l1 x5_1).f1), .string (⟨#[]⟩ : ByteArray), .slice none 0 0, .slice none 0 0, .slice none 0 0]) ?_ 2 _ rfl; (with_reducible repeat (first | refine bN ?_ _ | refine bD ?_ | refine bA ?_ _)); refine blk_put (cs := #[.int .i64 ((rd_T108 l1 x5_1).f0), .string (⟨#[]⟩ : ByteArray), .string (⟨#[]⟩ : ByteArray), .slice none 0 0, .slice none 0 0, .slice none 0 0]) ?_ 1 _ rfl; (with_reducible repeat (first | refine bN ?_ _ | refine bD ?_ | refine bA ?_ _)); refine blk_put (cs := #[.int .i64 0, .string (⟨#[]⟩ : ByteArray), .string (⟨#[]⟩ : ByteArray), .slice none 0 0, .slice none 0 0, .slice none 0 0]) ?_ 0 _ rfl; (with_reducible repeat (first | refine bN ?_ _ | refine bD ?_ | refine bA ?_ _)); refine blk_far ?_ NB109_108.out _; (with_reducible repeat (first | refine bN ?_ _ | refine bD ?_ | refine bA ?_ _)); refine blk_far ?_ NB109_108.out _; (with_reducible repeat (first | refine bN ?_ _ | refine bD ?_ | refine bA ?_ _)); refine blk_far ?_ NB109_108.out _; (with_reducible repeat (first | refine bN ?_ _ | refine bD ?_ | refine bA ?_ _)); refine blk_far ?_ NB109_108.out _; (with_reducible repeat (first | refine bN ?_ _ | refine bD ?_ | refine bA ?_ _)); refine blk_far ?_ NB109_108.out _; (with_reducible repeat (first | refine bN ?_ _ | refine bD ?_ | refine bA ?_ _)); refine blk_far ?_ NB109_108.out _; (with_reducible repeat (first | refine bN ?_ _ | refine bD ?_ | refine bA ?_ _)); exact BK109.out) hb); have n2_ := Aside0.mk (below_step (by repeat (first | (with_reducible first | exact HB.out | apply below_alloc | apply wN | apply wD | refine below_set ?_ GE108.out | refine below_set ?_ GE109.out) | exact HB.out)) hb); clear BK108; clear BK109; clear HB; have BK108 := n0_; have BK109 := n1_; have HB := n2_; clear n0_ n1_ n2_; (try clear hb); (try clear hb2); (try clear hk); (try clear hi); have hcz36_0 : w35.cell? ⟨gb108, 0, none⟩ = some (.int .i64 ((rd_T108 l0 x5_1).f0)) := (blk_cell BK108.out 0).trans rfl; have hcz36_1 : w35.cell? ⟨gb108, 1, none⟩ = some (.string ((rd_T108 l0 x5_1).f1)) := (blk_cell BK108.out 1).trans rfl; have hcz36_2 : w35.cell? ⟨gb108, 2, none⟩ = some (.string ((rd_T108 l0 x5_1).f2)) := (blk_cell BK108.out 2).trans rfl; have hcz36_3 : w35.cell? ⟨gb108, 3, none⟩ = some (.slice A106_3 ((rd_T108 l0 x5_1).f3).length c106_3) := (blk_cell BK108.out 3).trans rfl; have hcz36_4 : w35.cell? ⟨gb108, 4, none⟩ = some (.slice A106_4 ((rd_T108 l0 x5_1).f4).length c106_4) := (blk_cell BK108.out 4).trans rfl; have hcz36_5 : w35.cell? ⟨gb108, 5, none⟩ = some (.slice A106_5 ((rd_T108 l0 x5_1).f5).length c106_5) := (blk_cell BK108.out 5).trans rfl; have hfz36_0 := blk_frozen BK108.out 0; have hfz36_1 := blk_frozen BK108.out 1; have hfz36_2 := blk_frozen BK108.out 2; have hfz36_3 := blk_frozen BK108.out 3; have hfz36_4 := blk_frozen BK108.out 4; have hfz36_5 := blk_frozen BK108.out 5; have hcz37_0 : w35.cell? ⟨gb109, 0, none⟩ = some (.int .i64 ((rd_T108 l1 x5_1).f0)) := (blk_cell BK109.out 0).trans rfl; have hcz37_1 : w35.cell? ⟨gb109, 1, none⟩ = some (.string ((rd_T108 l1 x5_1).f1)) := (blk_cell BK109.out 1).trans rfl; have hcz37_2 : w35.cell? ⟨gb109, 2, none⟩ = some (.string ((rd_T108 l1 x5_1).f2)) := (blk_cell BK109.out 2).trans rfl; have hcz37_3 : w35.cell? ⟨gb109, 3, none⟩ = some (.slice A107_3 ((rd_T108 l1 x5_1).f3).length c107_3) := (blk_cell BK109.out 3).trans rfl; have hcz37_4 : w35.cell? ⟨gb109, 4, none⟩ = some (.slice A107_4 ((rd_T108 l1 x5_1).f4).length c107_4) := (blk_cell BK109.out 4).trans rfl; have hcz37_5 : w35.cell? ⟨gb109, 5, none⟩ = some (.slice A107_5 ((rd_T108 l1 x5_1).f5).length c107_5) := (blk_cell BK109.out 5).trans rfl; have hfz37_0 := blk_frozen BK109.out 0; have hfz37_1 := blk_frozen BK109.out 1; have hfz37_2 := blk_frozen BK109.out 2; have hfz37_3 := blk_frozen BK109.out 3; have hfz37_4 := blk_frozen BK109.out 4; have hfz37_5 := blk_frozen BK109.out 5) | (go_at_call 37; (with_reducible refine (ih k1 (by have := HK1.out; omega) _ _ ((rd_T108 l0 x5_1).f4) _ _ ((rd_T108 l1 x5_1).f4) true _ ?side1 ?side2 ?side3 ?side4 A12.out).mono ?_); (case side1 => repeat (first | exact (Kd.C_below HR106_4.out HB.out) | (with_reducible refine Kd.C_alloc ?_ _) | (with_reducible refine Kd.C_drewN ?_ _) | (with_reducible refine Kd.C_drew ?_))); (case side2 => exact HC106_4.out); (case side3 => repeat (first | exact (Kd.C_below HR107_4.out HB.out) | (with_reducible refine Kd.C_alloc ?_ _) | (with_reducible refine Kd.C_drewN ?_ _) | (with_reducible refine Kd.C_drew ?_))); (case side4 => exact HC107_4.out); rintro e w38 ⟨rfl, hb⟩; have n0_ := Aside0.mk (blk_below (g := gb108) (o := .cells #[.int .i64 ((rd_T108 l0 x5_1).f0), .string ((rd_T108 l0 x5_1).f1), .string ((rd_T108 l0 x5_1).f2), .slice A106_3 ((rd_T108 l0 x5_1).f3).length c106_3, .slice A106_4 ((rd_T108 l0 x5_1).f4).length c106_4, .slice A106_5 ((rd_T108 l0 x5_1).f5).length c106_5] 108 (0, 0)) (by (with_reducible repeat (first | refine bN ?_ _ | refine bD ?_ | refine bA ?_ _)); exact BK108.out) hb); have n1_ := Aside0.mk (blk_below (g := gb109) (o := .cells #[.int .i64 ((rd_T108 l1 x5_1).f0), .string ((rd_T108 l1 x5_1).f1), .string ((rd_T108 l1 x5_1).f2), .slice A107_3 ((rd_T108 l1 x5_1).f3).length c107_3, .slice A107_4 ((rd_T108 l1 x5_1).f4).length c107_4, .slice A107_5 ((rd_T108 l1 x5_1).f5).length c107_5] 108 (0, 0)) (by (with_reducible repeat (first | refine bN ?_ _ | refine bD ?_ | refine bA ?_ _)); exact BK109.out) hb); have n2_ := Aside0.mk (below_step (by repeat (first | (with_reducible first | exact HB.out | apply below_alloc | apply wN | apply wD | refine below_set ?_ GE108.out | refine below_set ?_ GE109.out) | exact HB.out)) hb); clear BK108; clear BK109; clear HB; have BK108 := n0_; have BK109 := n1_; have HB := n2_; clear n0_ n1_ n2_; (try clear hb); (try clear hb2); (try clear hk); (try clear hi); have hcz39_0 : w38.cell? ⟨gb108, 0, none⟩ = some (.int .i64 ((rd_T108 l0 x5_1).f0)) := (blk_cell BK108.out 0).trans rfl; have hcz39_1 : w38.cell? ⟨gb108, 1, none⟩ = some (.string ((rd_T108 l0 x5_1).f1)) := (blk_cell BK108.out 1).trans rfl; have hcz39_2 : w38.cell? ⟨gb108, 2, none⟩ = some (.string ((rd_T108 l0 x5_1).f2)) := (blk_cell BK108.out 2).trans rfl; have hcz39_3 : w38.cell? ⟨gb108, 3, none⟩ = some (.slice A106_3 ((rd_T108 l0 x5_1).f3).length c106_3) := (blk_cell BK108.out 3).trans rfl; have hcz39_4 : w38.cell? ⟨gb108, 4, none⟩ = some (.slice A106_4 ((rd_T108 l0 x5_1).f4).length c106_4) := (blk_cell BK108.out 4).trans rfl; have hcz39_5 : w38.cell? ⟨gb108, 5, none⟩ = some (.slice A106_5 ((rd_T108 l0 x5_1).f5).length c106_5) := (blk_cell BK108.out 5).trans rfl; have hfz39_0 := blk_frozen BK108.out 0; have hfz39_1 := blk_frozen BK108.out 1; have hfz39_2 := blk_frozen BK108.out 2; have hfz39_3 := blk_frozen BK108.out 3; have hfz39_4 := blk_frozen BK108.out 4; have hfz39_5 := blk_frozen BK108.out 5; have hcz40_0 : w38.cell? ⟨gb109, 0, none⟩ = some (.int .i64 ((rd_T108 l1 x5_1).f0)) := (blk_cell BK109.out 0).trans rfl; have hcz40_1 : w38.cell? ⟨gb109, 1, none⟩ = some (.string ((rd_T108 l1 x5_1).f1)) := (blk_cell BK109.out 1).trans rfl; have hcz40_2 : w38.cell? ⟨gb109, 2, none⟩ = some (.string ((rd_T108 l1 x5_1).f2)) := (blk_cell BK109.out 2).trans rfl; have hcz40_3 : w38.cell? ⟨gb109, 3, none⟩ = some (.slice A107_3 ((rd_T108 l1 x5_1).f3).length c107_3) := (blk_cell BK109.out 3).trans rfl; have hcz40_4 : w38.cell? ⟨gb109, 4, none⟩ = some (.slice A107_4 ((rd_T108 l1 x5_1).f4).length c107_4) := (blk_cell BK109.out 4).trans rfl; have hcz40_5 : w38.cell? ⟨gb109, 5, none⟩ = some (.slice A107_5 ((rd_T108 l1 x5_1).f5).length c107_5) := (blk_cell BK109.out 5).trans rfl; have hfz40_0 := blk_frozen BK109.out 0; have hfz40_1 := blk_frozen BK109.out 1; have hfz40_2 := blk_frozen BK109.out 2; have hfz40_3 := blk_frozen BK109.out 3; have hfz40_4 := blk_frozen BK109.out 4; have hfz40_5 := blk_frozen BK109.out 5) | (go_at_call 37; (with_reducible refine (ih k1 (by have := HK1.out; omega) _ _ ((rd_T108 l0 x5_1).f5) _ _ ((rd_T108 l1 x5_1).f5) true _ ?side1 ?side2 ?side3 ?side4 A14.out).mono ?_); (case side1 => repeat (first | exact (Kd.C_below HR106_5.out HB.out) | (with_reducible refine Kd.C_alloc ?_ _) | (with_reducible refine Kd.C_drewN ?_ _) | (with_reducible refine Kd.C_drew ?_))); (case side2 => exact HC106_5.out); (case side3 => repeat (first | exact (Kd.C_below HR107_5.out HB.out) | (with_reducible refine Kd.C_alloc ?_ _) | (with_reducible refine Kd.C_drewN ?_ _) | (with_reducible refine Kd.C_drew ?_))); (case side4 => exact HC107_5.out); rintro e w41 ⟨rfl, hb⟩; have n0_ := Aside0.mk (blk_below (g := gb108) (o := .cells #[.int .i64 ((rd_T108 l0 x5_1).f0), .string ((rd_T108 l0 x5_1).f1), .string ((rd_T108 l0 x5_1).f2), .slice A106_3 ((rd_T108 l0 x5_1).f3).length c106_3, .slice A106_4 ((rd_T108 l0 x5_1).f4).length c106_4, .slice A106_5 ((rd_T108 l0 x5_1).f5).length c106_5] 108 (0, 0)) (by (with_reducible repeat (first | refine bN ?_ _ | refine bD ?_ | refine bA ?_ _)); exact BK108.out) hb); have n1_ := Aside0.mk (blk_below (g := gb109) (o := .cells #[.int .i64 ((rd_T108 l1 x5_1).f0), .string ((rd_T108 l1 x5_1).f1), .string ((rd_T108 l1 x5_1).f2), .slice A107_3 ((rd_T108 l1 x5_1).f3).length c107_3, .slice A107_4 ((rd_T108 l1 x5_1).f4).length c107_4, .slice A107_5 ((rd_T108 l1 x5_1).f5).length c107_5] 108 (0, 0)) (by (with_reducible repeat (first | refine bN ?_ _ | refine bD ?_ | refine bA ?_ _)); exact BK109.out) hb); have n2_ := Aside0.mk (below_step (by repeat (first | (with_reducible first | exact HB.out | apply below_alloc | apply wN | apply wD | refine below_set ?_ GE108.out | refine below_set ?_ GE109.out) | exact HB.out)) hb); clear BK108; clear BK109; clear HB; have BK108 := n0_; have BK109 := n1_; have HB := n2_; clear n0_ n1_ n2_; (try clear hb); (try clear hb2); (try clear hk); (try clear hi)))
                          go_roundg k1
                          case measure => have := HK1.out; omega
                          case rel => exact ⟨(wrap64 (x5_1 + 1)), (by first | rfl | (simp; done) | (simp [*]; done)), H', ⟨by have := HK1.out; omega⟩, ⟨by repeat (first | (with_reducible first | exact HB.out | apply below_alloc | apply wN | apply wD | refine below_set ?_ GE108.out | refine below_set ?_ GE109.out) | exact HB.out)⟩⟩
                        · replace c15 := Bool.eq_false_iff.mpr c15
                          subst c15
                          have H1 : (some false) = some r := by rw [if_neg (show ¬ (false = true) by decide)] at H; exact H
                          clear H
                          have H := H1
                          clear H1
                          obtain rfl := Option.some.inj H
                          try go_wp2_with (first | (go_at_call 65; (with_reducible refine (rE.calls k1 _ _ ((rd_T108 l0 x5_1).f3) _ _ ((rd_T108 l1 x5_1).f3) true _ ?side1 ?side2 ?side3 ?side4 A10.out).mono ?_); (case side1 => exact Kd.C_below HR106_3.out (by repeat (first | (with_reducible first | exact HB.out | apply below_alloc | apply wN | apply wD | refine below_set ?_ GE108.out | refine below_set ?_ GE109.out) | exact HB.out))); (case side2 => exact HC106_3.out); (case side3 => exact Kd.C_below HR107_3.out (by repeat (first | (with_reducible first | exact HB.out | apply below_alloc | apply wN | apply wD | refine below_set ?_ GE108.out | refine below_set ?_ GE109.out) | exact HB.out))); (case side4 => exact HC107_3.out); rintro e w61 ⟨rfl, hb⟩; have n0_ := Aside0.mk (blk_below (g := gb108) (o := .cells #[.int .i64 ((rd_T108 l0 x5_1).f0), .string ((rd_T108 l0 x5_1).f1), .string ((rd_T108 l0 x5_1).f2), .slice A106_3 ((rd_T108 l0 x5_1).f3).length c106_3, .slice A106_4 ((rd_T108 l0 x5_1).f4).length c106_4, .slice A106_5 ((rd_T108 l0 x5_1).f5).length c106_5] 108 (0, 0)) (by (with_reducible repeat (first | refine bN ?_ _ | refine bD ?_ | refine bA ?_ _)); refine blk_far ?_ NB108_109.out _; (with_reducible repeat (first | refine bN ?_ _ | refine bD ?_ | refine bA ?_ _)); refine blk_far ?_ NB108_109.out _; (with_reducible repeat (first | refine bN ?_ _ | refine bD ?_ | refine bA ?_ _)); refine blk_far ?_ NB108_109.out _; (with_reducible repeat (first | refine bN ?_ _ | refine bD ?_ | refine bA ?_ _)); refine blk_far ?_ NB108_109.out _; (with_reducible repeat (first | refine bN ?_ _ | refine bD ?_ | refine bA ?_ _)); refine blk_far ?_ NB108_109.out _; (with_reducible repeat (first | refine bN ?_ _ | refine bD ?_ | refine bA ?_ _)); refine blk_far ?_ NB108_109.out _; (with_reducible repeat (first | refine bN ?_ _ | refine bD ?_ | refine bA ?_ _)); refine blk_put (cs := #[.int .i64 ((rd_T108 l0 x5_1).f0), .string ((rd_T108 l0 x5_1).f1), .string ((rd_T108 l0 x5_1).f2), .slice A106_3 ((rd_T108 l0 x5_1).f3).length c106_3, .slice A106_4 ((rd_T108 l0 x5_1).f4).length c106_4, .slice none 0 0]) ?_ 5 _ rfl; (with_reducible repeat (first | refine bN ?_ _ | refine bD ?_ | refine bA ?_ _)); refine blk_put (cs := #[.int .i64 ((rd_T108 l0 x5_1).f0), .string ((rd_T108 l0 x5_1).f1), .string ((rd_T108 l0 x5_1).f2), .slice A106_3 ((rd_T108 l0 x5_1).f3).length c106_3, .slice none 0 0, .slice none 0 0]) ?_ 4 _ rfl; (with_reducible repeat (first | refine bN ?_ _ | refine bD ?_ | refine bA ?_ _)); refine blk_put (cs := #[.int .i64 ((rd_T108 l0 x5_1).f0), .string ((rd_T108 l0 x5_1).f1), .string ((rd_T108 l0 x5_1).f2), .slice none 0 0, .slice none 0 0, .slice none 0 0]) ?_ 3 _ rfl; (with_reducible repeat (first | refine bN ?_ _ | refine bD ?_ | refine bA ?_ _)); refine blk_put (cs := #[.int .i64 ((rd_T108 l0 x5_1).f0), .string ((rd_T108 l0 x5_1).f1), .string (⟨#[]⟩ : ByteArray), .slice none 0 0, .slice none 0 0, .slice none 0 0]) ?_ 2 _ rfl; (with_reducible repeat (first | refine bN ?_ _ | refine bD ?_ | refine bA ?_ _)); refine blk_put (cs := #[.int .i64 ((rd_T108 l0 x5_1).f0), .string (⟨#[]⟩ : ByteArray), .string (⟨#[]⟩ : ByteArray), .slice none 0 0, .slice none 0 0, .slice none 0 0]) ?_ 1 _ rfl; (with_reducible repeat (first | refine bN ?_ _ | refine bD ?_ | refine bA ?_ _)); refine blk_put (cs := #[.int .i64 0, .string (⟨#[]⟩ : ByteArray), .string (⟨#[]⟩ : ByteArray), .slice none 0 0, .slice none 0 0, .slice none 0 0]) ?_ 0 _ rfl; (with_reducible repeat (first | refine bN ?_ _ | refine bD ?_ | refine bA ?_ _)); exact BK108.out) hb); have n1_ := Aside0.mk (blk_below (g := gb109) (o := .cells #[.int .i64 ((rd_T108 l1 x5_1).f0), .string ((rd_T108 l1 x5_1).f1), .string ((rd_T108 l1 x5_1).f2), .slice A107_3 ((rd_T108 l1 x5_1).f3).length c107_3, .slice A107_4 ((rd_T108 l1 x5_1).f4).length c107_4, .slice A107_5 ((rd_T108 l1 x5_1).f5).length c107_5] 108 (0, 0)) (by (with_reducible repeat (first | refine bN ?_ _ | refine bD ?_ | refine bA ?_ _)); refine blk_put (cs := #[.int .i64 ((rd_T108 l1 x5_1).f0), .string ((rd_T108 l1 x5_1).f1), .string ((rd_T108 l1 x5_1).f2), .slice A107_3 ((rd_T108 l1 x5_1).f3).length c107_3, .slice A107_4 ((rd_T108 l1 x5_1).f4).length c107_4, .slice none 0 0]) ?_ 5 _ rfl; (with_reducible repeat (first | refine bN ?_ _ | refine bD ?_ | refine bA ?_ _)); refine blk_put (cs := #[.int .i64 ((rd_T108 l1 x5_1).f0), .string ((rd_T108 l1 x5_1).f1), .string ((rd_T108 l1 x5_1).f2), .slice A107_3 ((rd_T108 l1 x5_1).f3).length c107_3, .slice none 0 0, .slice none 0 0]) ?_ 4 _ rfl; (with_reducible repeat (first | refine bN ?_ _ | refine bD ?_ | refine bA ?_ _)); refine blk_put (cs := #[.int .i64 ((rd_T108 l1 x5_1).f0), .string ((rd_T108 l1 x5_1).f1), .string ((rd_T108 l1 x5_1).f2), .slice none 0 0, .slice none 0 0, .slice none 0 0]) ?_ 3 _ rfl; (with_reducible repeat (first | refine bN ?_ _ | refine bD ?_ | refine bA ?_ _)); refine blk_put (cs := #[.int .i64 ((rd_T108 l1 x5_1).f0), .string ((rd_T108 l1 x5_1).f1), .string (⟨#[]⟩ : ByteArray), .slice none 0 0, .slice none 0 0, .slice none 0 0]) ?_ 2 _ rfl; (with_reducible repeat (first | refine bN ?_ _ | refine bD ?_ | refine bA ?_ _)); refine blk_put (cs := #[.int .i64 ((rd_T108 l1 x5_1).f0), .string (⟨#[]⟩ : ByteArray), .string (⟨#[]⟩ : ByteArray), .slice none 0 0, .slice none 0 0, .slice none 0 0]) ?_ 1 _ rfl; (with_reducible repeat (first | refine bN ?_ _ | refine bD ?_ | refine bA ?_ _)); refine blk_put (cs := #[.int .i64 0, .string (⟨#[]⟩ : ByteArray), .string (⟨#[]⟩ : ByteArray), .slice none 0 0, .slice none 0 0, .slice none 0 0]) ?_ 0 _ rfl; (with_reducible repeat (first | refine bN ?_ _ | refine bD ?_ | refine bA ?_ _)); refine blk_far ?_ NB109_108.out _; (with_reducible repeat (first | refine bN ?_ _ | refine bD ?_ | refine bA ?_ _)); refine blk_far ?_ NB109_108.out _; (with_reducible repeat (first | refine bN ?_ _ | refine bD ?_ | refine bA ?_ _)); refine blk_far ?_ NB109_108.out _; (with_reducible repeat (first | refine bN ?_ _ | refine bD ?_ | refine bA ?_ _)); refine blk_far ?_ NB109_108.out _; (with_reducible repeat (first | refine bN ?_ _ | refine bD ?_ | refine bA ?_ _)); refine blk_far ?_ NB109_108.out _; (with_reducible repeat (first | refine bN ?_ _ | refine bD ?_ | refine bA ?_ _)); refine blk_far ?_ NB109_108.out _; (with_reducible repeat (first | refine bN ?_ _ | refine bD ?_ | refine bA ?_ _)); exact BK109.out) hb); have n2_ := Aside0.mk (below_step (by repeat (first | (with_reducible first | exact HB.out | apply below_alloc | apply wN | apply wD | refine below_set ?_ GE108.out | refine below_set ?_ GE109.out) | exact HB.out)) hb); clear BK108; clear BK109; clear HB; have BK108 := n0_; have BK109 := n1_; have HB := n2_; clear n0_ n1_ n2_; (try clear hb); (try clear hb2); (try clear hk); (try clear hi); have hcz62_0 : w61.cell? ⟨gb108, 0, none⟩ = some (.int .i64 ((rd_T108 l0 x5_1).f0)) := (blk_cell BK108.out 0).trans rfl; have hcz62_1 : w61.cell? ⟨gb108, 1, none⟩ = some (.string ((rd_T108 l0 x5_1).f1)) := (blk_cell BK108.out 1).trans rfl; have hcz62_2 : w61.cell? ⟨gb108, 2, none⟩ = some (.string ((rd_T108 l0 x5_1).f2)) := (blk_cell BK108.out 2).trans rfl; have hcz62_3 : w61.cell? ⟨gb108, 3, none⟩ = some (.slice A106_3 ((rd_T108 l0 x5_1).f3).length c106_3) := (blk_cell BK108.out 3).trans rfl; have hcz62_4 : w61.cell? ⟨gb108, 4, none⟩ = some (.slice A106_4 ((rd_T108 l0 x5_1).f4).length c106_4) := (blk_cell BK108.out 4).trans rfl; have hcz62_5 : w61.cell? ⟨gb108, 5, none⟩ = some (.slice A106_5 ((rd_T108 l0 x5_1).f5).length c106_5) := (blk_cell BK108.out 5).trans rfl; have hfz62_0 := blk_frozen BK108.out 0; have hfz62_1 := blk_frozen BK108.out 1; have hfz62_2 := blk_frozen BK108.out 2; have hfz62_3 := blk_frozen BK108.out 3; have hfz62_4 := blk_frozen BK108.out 4; have hfz62_5 := blk_frozen BK108.out 5; have hcz63_0 : w61.cell? ⟨gb109, 0, none⟩ = some (.int .i64 ((rd_T108 l1 x5_1).f0)) := (blk_cell BK109.out 0).trans rfl; have hcz63_1 : w61.cell? ⟨gb109, 1, none⟩ = some (.string ((rd_T108 l1 x5_1).f1)) := (blk_cell BK109.out 1).trans rfl; have hcz63_2 : w61.cell? ⟨gb109, 2, none⟩ = some (.string ((rd_T108 l1 x5_1).f2)) := (blk_cell BK109.out 2).trans rfl; have hcz63_3 : w61.cell? ⟨gb109, 3, none⟩ = some (.slice A107_3 ((rd_T108 l1 x5_1).f3).length c107_3) := (blk_cell BK109.out 3).trans rfl; have hcz63_4 : w61.cell? ⟨gb109, 4, none⟩ = some (.slice A107_4 ((rd_T108 l1 x5_1).f4).length c107_4) := (blk_cell BK109.out 4).trans rfl; have hcz63_5 : w61.cell? ⟨gb109, 5, none⟩ = some (.slice A107_5 ((rd_T108 l1 x5_1).f5).length c107_5) := (blk_cell BK109.out 5).trans rfl; have hfz63_0 := blk_frozen BK109.out 0; have hfz63_1 := blk_frozen BK109.out 1; have hfz63_2 := blk_frozen BK109.out 2; have hfz63_3 := blk_frozen BK109.out 3; have hfz63_4 := blk_frozen BK109.out 4; have hfz63_5 := blk_frozen BK109.out 5) | (go_at_call 37; (with_reducible refine (ih k1 (by have := HK1.out; omega) _ _ ((rd_T108 l0 x5_1).f4) _ _ ((rd_T108 l1 x5_1).f4) true _ ?side1 ?side2 ?side3 ?side4 A12.out).mono ?_); (case side1 => repeat (first | exact (Kd.C_below HR106_4.out HB.out) | (with_reducible refine Kd.C_alloc ?_ _) | (with_reducible refine Kd.C_drewN ?_ _) | (with_reducible refine Kd.C_drew ?_))); (case side2 => exact HC106_4.out); (case side3 => repeat (first | exact (Kd.C_below HR107_4.out HB.out) | (with_reducible refine Kd.C_alloc ?_ _) | (with_reducible refine Kd.C_drewN ?_ _) | (with_reducible refine Kd.C_drew ?_))); (case side4 => exact HC107_4.out); rintro e w64 ⟨rfl, hb⟩; have n0_ := Aside0.mk (blk_below (g := gb108) (o := .cells #[.int .i64 ((rd_T108 l0 x5_1).f0), .string ((rd_T108 l0 x5_1).f1), .string ((rd_T108 l0 x5_1).f2), .slice A106_3 ((rd_T108 l0 x5_1).f3).length c106_3, .slice A106_4 ((rd_T108 l0 x5_1).f4).length c106_4, .slice A106_5 ((rd_T108 l0 x5_1).f5).length c106_5] 108 (0, 0)) (by (with_reducible repeat (first | refine bN ?_ _ | refine bD ?_ | refine bA ?_ _)); exact BK108.out) hb); have n1_ := Aside0.mk (blk_below (g := gb109) (o := .cells #[.int .i64 ((rd_T108 l1 x5_1).f0), .string ((rd_T108 l1 x5_1).f1), .string ((rd_T108 l1 x5_1).f2), .slice A107_3 ((rd_T108 l1 x5_1).f3).length c107_3, .slice A107_4 ((rd_T108 l1 x5_1).f4).length c107_4, .slice A107_5 ((rd_T108 l1 x5_1).f5).length c107_5] 108 (0, 0)) (by (with_reducible repeat (first | refine bN ?_ _ | refine bD ?_ | refine bA ?_ _)); exact BK109.out) hb); have n2_ := Aside0.mk (below_step (by repeat (first | (with_reducible first | exact HB.out | apply below_alloc | apply wN | apply wD | refine below_set ?_ GE108.out | refine below_set ?_ GE109.out) | exact HB.out)) hb); clear BK108; clear BK109; clear HB; have BK108 := n0_; have BK109 := n1_; have HB := n2_; clear n0_ n1_ n2_; (try clear hb); (try clear hb2); (try clear hk); (try clear hi); have hcz65_0 : w64.cell? ⟨gb108, 0, none⟩ = some (.int .i64 ((rd_T108 l0 x5_1).f0)) := (blk_cell BK108.out 0).trans rfl; have hcz65_1 : w64.cell? ⟨gb108, 1, none⟩ = some (.string ((rd_T108 l0 x5_1).f1)) := (blk_cell BK108.out 1).trans rfl; have hcz65_2 : w64.cell? ⟨gb108, 2, none⟩ = some (.string ((rd_T108 l0 x5_1).f2)) := (blk_cell BK108.out 2).trans rfl; have hcz65_3 : w64.cell? ⟨gb108, 3, none⟩ = some (.slice A106_3 ((rd_T108 l0 x5_1).f3).length c106_3) := (blk_cell BK108.out 3).trans rfl; have hcz65_4 : w64.cell? ⟨gb108, 4, none⟩ = some (.slice A106_4 ((rd_T108 l0 x5_1).f4).length c106_4) := (blk_cell BK108.out 4).trans rfl; have hcz65_5 : w64.cell? ⟨gb108, 5, none⟩ = some (.slice A106_5 ((rd_T108 l0 x5_1).f5).length c106_5) := (blk_cell BK108.out 5).trans rfl; have hfz65_0 := blk_frozen BK108.out 0; have hfz65_1 := blk_frozen BK108.out 1; have hfz65_2 := blk_frozen BK108.out 2; have hfz65_3 := blk_frozen BK108.out 3; have hfz65_4 := blk_frozen BK108.out 4; have hfz65_5 := blk_frozen BK108.out 5; have hcz66_0 : w64.cell? ⟨gb109, 0, none⟩ = some (.int .i64 ((rd_T108 l1 x5_1).f0)) := (blk_cell BK109.out 0).trans rfl; have hcz66_1 : w64.cell? ⟨gb109, 1, none⟩ = some (.string ((rd_T108 l1 x5_1).f1)) := (blk_cell BK109.out 1).trans rfl; have hcz66_2 : w64.cell? ⟨gb109, 2, none⟩ = some (.string ((rd_T108 l1 x5_1).f2)) := (blk_cell BK109.out 2).trans rfl; have hcz66_3 : w64.cell? ⟨gb109, 3, none⟩ = some (.slice A107_3 ((rd_T108 l1 x5_1).f3).length c107_3) := (blk_cell BK109.out 3).trans rfl; have hcz66_4 : w64.cell? ⟨gb109, 4, none⟩ = some (.slice A107_4 ((rd_T108 l1 x5_1).f4).length c107_4) := (blk_cell BK109.out 4).trans rfl; have hcz66_5 : w64.cell? ⟨gb109, 5, none⟩ = some (.slice A107_5 ((rd_T108 l1 x5_1).f5).length c107_5) := (blk_cell BK109.out 5).trans rfl; have hfz66_0 := blk_frozen BK109.out 0; have hfz66_1 := blk_frozen BK109.out 1; have hfz66_2 := blk_frozen BK109.out 2; have hfz66_3 := blk_frozen BK109.out 3; have hfz66_4 := blk_frozen BK109.out 4; have hfz66_5 := blk_frozen BK109.out 5) | (go_at_call 37; (with_reducible refine (ih k1 (by have := HK1.out; omega) _ _ ((rd_T108 l0 x5_1).f5) _ _ ((rd_T108 l1 x5_1).f5) false _ ?side1 ?side2 ?side3 ?side4 A14.out).mono ?_); (case side1 => repeat (first | exact (Kd.C_below HR106_5.out HB.out) | (with_reducible refine Kd.C_alloc ?_ _) | (with_reducible refine Kd.C_drewN ?_ _) | (with_reducible refine Kd.C_drew ?_))); (case side2 => exact HC106_5.out); (case side3 => repeat (first | exact (Kd.C_below HR107_5.out HB.out) | (with_reducible refine Kd.C_alloc ?_ _) | (with_reducible refine Kd.C_drewN ?_ _) | (with_reducible refine Kd.C_drew ?_))); (case side4 => exact HC107_5.out); rintro e w67 ⟨rfl, hb⟩; have n0_ := Aside0.mk (blk_below (g := gb108) (o := .cells #[.int .i64 ((rd_T108 l0 x5_1).f0), .string ((rd_T108 l0 x5_1).f1), .string ((rd_T108 l0 x5_1).f2), .slice A106_3 ((rd_T108 l0 x5_1).f3).length c106_3, .slice A106_4 ((rd_T108 l0 x5_1).f4).length c106_4, .slice A106_5 ((rd_T108 l0 x5_1).f5).length c106_5] 108 (0, 0)) (by (with_reducible repeat (first | refine bN ?_ _ | refine bD ?_ | refine bA ?_ _)); exact BK108.out) hb); have n1_ := Aside0.mk (blk_below (g := gb109) (o := .cells #[.int .i64 ((rd_T108 l1 x5_1).f0), .string ((rd_T108 l1 x5_1).f1), .string ((rd_T108 l1 x5_1).f2), .slice A107_3 ((rd_T108 l1 x5_1).f3).length c107_3, .slice A107_4 ((rd_T108 l1 x5_1).f4).length c107_4, .slice A107_5 ((rd_T108 l1 x5_1).f5).length c107_5] 108 (0, 0)) (by (with_reducible repeat (first | refine bN ?_ _ | refine bD ?_ | refine bA ?_ _)); exact BK109.out) hb); have n2_ := Aside0.mk (below_step (by repeat (first | (with_reducible first | exact HB.out | apply below_alloc | apply wN | apply wD | refine below_set ?_ GE108.out | refine below_set ?_ GE109.out) | exact HB.out)) hb); clear BK108; clear BK109; clear HB; have BK108 := n0_; have BK109 := n1_; have HB := n2_; clear n0_ n1_ n2_; (try clear hb); (try clear hb2); (try clear hk); (try clear hi)))
                          go_ret
                          exact ⟨by first | rfl | (simp [errW_none, errW_some] <;> rfl) | (simp [*, errW_none, errW_some] <;> rfl), by repeat (first | (with_reducible first | exact HB.out | apply below_alloc | apply wN | apply wD | refine below_set ?_ GE108.out | refine below_set ?_ GE109.out) | exact HB.out)⟩
                      · replace c13 := Bool.eq_false_iff.mpr c13
                        subst c13
                        have H1 : (some false) = some r := by rw [if_neg (show ¬ (false = true) by decide)] at H; exact H
                        clear H
                        have H := H1
                        clear H1
                        obtain rfl := Option.some.inj H
                        try go_wp2_with (first | (go_at_call 65; (with_reducible refine (rE.calls k1 _ _ ((rd_T108 l0 x5_1).f3) _ _ ((rd_T108 l1 x5_1).f3) true _ ?side1 ?side2 ?side3 ?side4 A10.out).mono ?_); (case side1 => exact Kd.C_below HR106_3.out (by repeat (first | (with_reducible first | exact HB.out | apply below_alloc | apply wN | apply wD | refine below_set ?_ GE108.out | refine below_set ?_ GE109.out) | exact HB.out))); (case side2 => exact HC106_3.out); (case side3 => exact Kd.C_below HR107_3.out (by repeat (first | (with_reducible first | exact HB.out | apply below_alloc | apply wN | apply wD | refine below_set ?_ GE108.out | refine below_set ?_ GE109.out) | exact HB.out))); (case side4 => exact HC107_3.out); rintro e w87 ⟨rfl, hb⟩; have n0_ := Aside0.mk (blk_below (g := gb108) (o := .cells #[.int .i64 ((rd_T108 l0 x5_1).f0), .string ((rd_T108 l0 x5_1).f1), .string ((rd_T108 l0 x5_1).f2), .slice A106_3 ((rd_T108 l0 x5_1).f3).length c106_3, .slice A106_4 ((rd_T108 l0 x5_1).f4).length c106_4, .slice A106_5 ((rd_T108 l0 x5_1).f5).length c106_5] 108 (0, 0)) (by (with_reducible repeat (first | refine bN ?_ _ | refine bD ?_ | refine bA ?_ _)); refine blk_far ?_ NB108_109.out _; (with_reducible repeat (first | refine bN ?_ _ | refine bD ?_ | refine bA ?_ _)); refine blk_far ?_ NB108_109.out _; (with_reducible repeat (first | refine bN ?_ _ | refine bD ?_ | refine bA ?_ _)); refine blk_far ?_ NB108_109.out _; (with_reducible repeat (first | refine bN ?_ _ | refine bD ?_ | refine bA ?_ _)); refine blk_far ?_ NB108_109.out _; (with_reducible repeat (first | refine bN ?_ _ | refine bD ?_ | refine bA ?_ _)); refine blk_far ?_ NB108_109.out _; (with_reducible repeat (first | refine bN ?_ _ | refine bD ?_ | refine bA ?_ _)); refine blk_far ?_ NB108_109.out _; (with_reducible repeat (first | refine bN ?_ _ | refine bD ?_ | refine bA ?_ _)); refine blk_put (cs := #[.int .i64 ((rd_T108 l0 x5_1).f0), .string ((rd_T108 l0 x5_1).f1), .string ((rd_T108 l0 x5_1).f2), .slice A106_3 ((rd_T108 l0 x5_1).f3).length c106_3, .slice A106_4 ((rd_T108 l0 x5_1).f4).length c106_4, .slice none 0 0]) ?_ 5 _ rfl; (with_reducible repeat (first | refine bN ?_ _ | refine bD ?_ | refine bA ?_ _)); refine blk_put (cs := #[.int .i64 ((rd_T108 l0 x5_1).f0), .string ((rd_T108 l0 x5_1).f1), .string ((rd_T108 l0 x5_1).f2), .slice A106_3 ((rd_T108 l0 x5_1).f3).length c106_3, .slice none 0 0, .slice none 0 0]) ?_ 4 _ rfl; (with_reducible repeat (first | refine bN ?_ _ | refine bD ?_ | refine bA ?_ _)); refine blk_put (cs := #[.int .i64 ((rd_T108 l0 x5_1).f0), .string ((rd_T108 l0 x5_1).f1), .string ((rd_T108 l0 x5_1).f2), .slice none 0 0, .slice none 0 0, .slice none 0 0]) ?_ 3 _ rfl; (with_reducible repeat (first | refine bN ?_ _ | refine bD ?_ | refine bA ?_ _)); refine blk_put (cs := #[.int .i64 ((rd_T108 l0 x5_1).f0), .string ((rd_T108 l0 x5_1).f1), .string (⟨#[]⟩ : ByteArray), .slice none 0 0, .slice none 0 0, .slice none 0 0]) ?_ 2 _ rfl; (with_reducible repeat (first | refine bN ?_ _ | refine bD ?_ | refine bA ?_ _)); refine blk_put (cs := #[.int .i64 ((rd_T108 l0 x5_1).f0), .string (⟨#[]⟩ : ByteArray), .string (⟨#[]⟩ : ByteArray), .slice none 0 0, .slice none 0 0, .slice none 0 0]) ?_ 1 _ rfl; (with_reducible repeat (first | refine bN ?_ _ | refine bD ?_ | refine bA ?_ _)); refine blk_put (cs := #[.int .i64 0, .string (⟨#[]⟩ : ByteArray), .string (⟨#[]⟩ : ByteArray), .slice none 0 0, .slice none 0 0, .slice none 0 0]) ?_ 0 _ rfl; (with_reducible repeat (first | refine bN ?_ _ | refine bD ?_ | refine bA ?_ _)); exact BK108.out) hb); have n1_ := Aside0.mk (blk_below (g := gb109) (o := .cells #[.int .i64 ((rd_T108 l1 x5_1).f0), .string ((rd_T108 l1 x5_1).f1), .string ((rd_T108 l1 x5_1).f2), .slice A107_3 ((rd_T108 l1 x5_1).f3).length c107_3, .slice A107_4 ((rd_T108 l1 x5_1).f4).length c107_4, .slice A107_5 ((rd_T108 l1 x5_1).f5).length c107_5] 108 (0, 0)) (by (with_reducible repeat (first | refine bN ?_ _ | refine bD ?_ | refine bA ?_ _)); refine blk_put (cs := #[.int .i64 ((rd_T108 l1 x5_1).f0), .string ((rd_T108 l1 x5_1).f1), .string ((rd_T108 l1 x5_1).f2), .slice A107_3 ((rd_T108 l1 x5_1).f3).length c107_3, .slice A107_4 ((rd_T108 l1 x5_1).f4).length c107_4, .slice none 0 0]) ?_ 5 _ rfl; (with_reducible repeat (first | refine bN ?_ _ | refine bD ?_ | refine bA ?_ _)); refine blk_put (cs := #[.int .i64 ((rd_T108 l1 x5_1).f0), .string ((rd_T108 l1 x5_1).f1), .string ((rd_T108 l1 x5_1).f2), .slice A107_3 ((rd_T108 l1 x5_1).f3).length c107_3, .slice none 0 0, .slice none 0 0]) ?_ 4 _ rfl; (with_reducible repeat (first | refine bN ?_ _ | refine bD ?_ | refine bA ?_ _)); refine blk_put (cs := #[.int .i64 ((rd_T108 l1 x5_1).f0), .string ((rd_T108 l1 x5_1).f1), .string ((rd_T108 l1 x5_1).f2), .slice none 0 0, .slice none 0 0, .slice none 0 0]) ?_ 3 _ rfl; (with_reducible repeat (first | refine bN ?_ _ | refine bD ?_ | refine bA ?_ _)); refine blk_put (cs := #[.int .i64 ((rd_T108 l1 x5_1).f0), .string ((rd_T108 l1 x5_1).f1), .string (⟨#[]⟩ : ByteArray), .slice none 0 0, .slice none 0 0, .slice none 0 0]) ?_ 2 _ rfl; (with_reducible repeat (first | refine bN ?_ _ | refine bD ?_ | refine bA ?_ _)); refine blk_put (cs := #[.int .i64 ((rd_T108 l1 x5_1).f0), .string (⟨#[]⟩ : ByteArray), .string (⟨#[]⟩ : ByteArray), .slice none 0 0, .slice none 0 0, .slice none 0 0]) ?_ 1 _ rfl; (with_reducible repeat (first | refine bN ?_ _ | refine bD ?_ | refine bA ?_ _)); refine blk_put (cs := #[.int .i64 0, .string (⟨#[]⟩ : ByteArray), .string (⟨#[]⟩ : ByteArray), .slice none 0 0, .slice none 0 0, .slice none 0 0]) ?_ 0 _ rfl; (with_reducible repeat (first | refine bN ?_ _ | refine bD ?_ | refine bA ?_ _)); refine blk_far ?_ NB109_108.out _; (with_reducible repeat (first | refine bN ?_ _ | refine bD ?_ | refine bA ?_ _)); refine blk_far ?_ NB109_108.out _; (with_reducible repeat (first | refine bN ?_ _ | refine bD ?_ | refine bA ?_ _)); refine blk_far ?_ NB109_108.out _; (with_reducible repeat (first | refine bN ?_ _ | refine bD ?_ | refine bA ?_ _)); refine blk_far ?_ NB109_108.out _; (with_reducible repeat (first | refine bN ?_ _ | refine bD ?_ | refine bA ?_ _)); refine blk_far ?_ NB109_108.out _; (with_reducible repeat (first | refine bN ?_ _ | refine bD ?_ | refine bA ?_ _)); refine blk_far ?_ NB109_108.out _; (with_reducible repeat (first | refine bN ?_ _ | refine bD ?_ | refine bA ?_ _)); exact BK109.out) hb); have n2_ := Aside0.mk (below_step (by repeat (first | (with_reducible first | exact HB.out | apply below_alloc | apply wN | apply wD | refine below_set ?_ GE108.out | refine below_set ?_ GE109.out) | exact HB.out)) hb); clear BK108; clear BK109; clear HB; have BK108 := n0_; have BK109 := n1_; have HB := n2_; clear n0_ n1_ n2_; (try clear hb); (try clear hb2); (try clear hk); (try clear hi); have hcz88_0 : w87.cell? ⟨gb108, 0, none⟩ = some (.int .i64 ((rd_T108 l0 x5_1).f0)) := (blk_cell BK108.out 0).trans rfl; have hcz88_1 : w87.cell? ⟨gb108, 1, none⟩ = some (.string ((rd_T108 l0 x5_1).f1)) := (blk_cell BK108.out 1).trans rfl; have hcz88_2 : w87.cell? ⟨gb108, 2, none⟩ = some (.string ((rd_T108 l0 x5_1).f2)) := (blk_cell BK108.out 2).trans rfl; have hcz88_3 : w87.cell? ⟨gb108, 3, none⟩ = some (.slice A106_3 ((rd_T108 l0 x5_1).f3).length c106_3) := (blk_cell BK108.out 3).trans rfl; have hcz88_4 : w87.cell? ⟨gb108, 4, none⟩ = some (.slice A106_4 ((rd_T108 l0 x5_1).f4).length c106_4) := (blk_cell BK108.out 4).trans rfl; have hcz88_5 : w87.cell? ⟨gb108, 5, none⟩ = some (.slice A106_5 ((rd_T108 l0 x5_1).f5).length c106_5) := (blk_cell BK108.out 5).trans rfl; have hfz88_0 := blk_frozen BK108.out 0; have hfz88_1 := blk_frozen BK108.out 1; have hfz88_2 := blk_frozen BK108.out 2; have hfz88_3 := blk_frozen BK108.out 3; have hfz88_4 := blk_frozen BK108.out 4; have hfz88_5 := blk_frozen BK108.out 5; have hcz89_0 : w87.cell? ⟨gb109, 0, none⟩ = some (.int .i64 ((rd_T108 l1 x5_1).f0)) := (blk_cell BK109.out 0).trans rfl; have hcz89_1 : w87.cell? ⟨gb109, 1, none⟩ = some (.string ((rd_T108 l1 x5_1).f1)) := (blk_cell BK109.out 1).trans rfl; have hcz89_2 : w87.cell? ⟨gb109, 2, none⟩ = some (.string ((rd_T108 l1 x5_1).f2)) := (blk_cell BK109.out 2).trans rfl; have hcz89_3 : w87.cell? ⟨gb109, 3, none⟩ = some (.slice A107_3 ((rd_T108 l1 x5_1).f3).length c107_3) := (blk_cell BK109.out 3).trans rfl; have hcz89_4 : w87.cell? ⟨gb109, 4, none⟩ = some (.slice A107_4 ((rd_T108 l1 x5_1).f4).length c107_4) := (blk_cell BK109.out 4).trans rfl; have hcz89_5 : w87.cell? ⟨gb109, 5, none⟩ = some (.slice A107_5 ((rd_T108 l1 x5_1).f5).length c107_5) := (blk_cell BK109.out 5).trans rfl; have hfz89_0 := blk_frozen BK109.out 0; have hfz89_1 := blk_frozen BK109.out 1; have hfz89_2 := blk_frozen BK109.out 2; have hfz89_3 := blk_frozen BK109.out 3; have hfz89_4 := blk_frozen BK109.out 4; have hfz89_5 := blk_frozen BK109.out 5) | (go_at_call 37; (with_reducible refine (ih k1 (by have := HK1.out; omega) _ _ ((rd_T108 l0 x5_1).f4) _ _ ((rd_T108 l1 x5_1).f4) false _ ?side1 ?side2 ?side3 ?side4 A12.out).mono ?_); (case side1 => repeat (first | exact (Kd.C_below HR106_4.out HB.out) | (with_reducible refine Kd.C_alloc ?_ _) | (with_reducible refine Kd.C_drewN ?_ _) | (with_reducible refine Kd.C_drew ?_))); (case side2 => exact HC106_4.out); (case side3 => repeat (first | exact (Kd.C_below HR107_4.out HB.out) | (with_reducible refine Kd.C_alloc ?_ _) | (with_reducible refine Kd.C_drewN ?_ _) | (with_reducible refine Kd.C_drew ?_))); (case side4 => exact HC107_4.out); rintro e w90 ⟨rfl, hb⟩; have n0_ := Aside0.mk (blk_below (g := gb108) (o := .cells #[.int .i64 ((rd_T108 l0 x5_1).f0), .string ((rd_T108 l0 x5_1).f1), .string ((rd_T108 l0 x5_1).f2), .slice A106_3 ((rd_T108 l0 x5_1).f3).length c106_3, .slice A106_4 ((rd_T108 l0 x5_1).f4).length c106_4, .slice A106_5 ((rd_T108 l0 x5_1).f5).length c106_5] 108 (0, 0)) (by (with_reducible repeat (first | refine bN ?_ _ | refine bD ?_ | refine bA ?_ _)); exact BK108.out) hb); have n1_ := Aside0.mk (blk_below (g := gb109) (o := .cells #[.int .i64 ((rd_T108 l1 x5_1).f0), .string ((rd_T108 l1 x5_1).f1), .string ((rd_T108 l1 x5_1).f2), .slice A107_3 ((rd_T108 l1 x5_1).f3).length c107_3, .slice A107_4 ((rd_T108 l1 x5_1).f4).length c107_4, .slice A107_5 ((rd_T108 l1 x5_1).f5).length c107_5] 108 (0, 0)) (by (with_reducible repeat (first | refine bN ?_ _ | refine bD ?_ | refine bA ?_ _)); exact BK109.out) hb); have n2_ := Aside0.mk (below_step (by repeat (first | (with_reducible first | exact HB.out | apply below_alloc | apply wN | apply wD | refine below_set ?_ GE108.out | refine below_set ?_ GE109.out) | exact HB.out)) hb); clear BK108; clear BK109; clear HB; have BK108 := n0_; have BK109 := n1_; have HB := n2_; clear n0_ n1_ n2_; (try clear hb); (try clear hb2); (try clear hk); (try clear hi)))
                        go_ret
                        exact ⟨by first | rfl | (simp [errW_none, errW_some] <;> rfl) | (simp [*, errW_none, errW_some] <;> rfl), by repeat (first | (with_reducible first | exact HB.out | apply below_alloc | apply wN | apply wD | refine below_set ?_ GE108.out | refine below_set ?_ GE109.out) | exact HB.out)⟩
                    · replace c11 := Bool.eq_false_iff.mpr c11
                      subst c11
                      have H1 : (some false) = some r := by rw [if_neg (show ¬ (false = true) by decide)] at H; exact H
                      clear H
                      have H := H1
                      clear H1
                      obtain rfl := Option.some.inj H
                      try go_wp2_with (first | (go_at_call 65; (with_reducible refine (rE.calls k1 _ _ ((rd_T108 l0 x5_1).f3) _ _ ((rd_T108 l1 x5_1).f3) false _ ?side1 ?side2 ?side3 ?side4 A10.out).mono ?_); (case side1 => exact Kd.C_below HR106_3.out (by repeat (first | (with_reducible first | exact HB.out | apply below_alloc | apply wN | apply wD | refine below_set ?_ GE108.out | refine below_set ?_ GE109.out) | exact HB.out))); (case side2 => exact HC106_3.out); (case side3 => exact Kd.C_below HR107_3.out (by repeat (first | (with_reducible first | exact HB.out | apply below_alloc | apply wN | apply wD | refine below_set ?_ GE108.out | refine below_set ?_ GE109.out) | exact HB.out))); (case side4 => exact HC107_3.out); rintro e w110 ⟨rfl, hb⟩; have n0_ := Aside0.mk (blk_below (g := gb108) (o := .cells #[.int .i64 ((rd_T108 l0 x5_1).f0), .string ((rd_T108 l0 x5_1).f1), .string ((rd_T108 l0 x5_1).f2), .slice A106_3 ((rd_T108 l0 x5_1).f3).length c106_3, .slice A106_4 ((rd_T108 l0 x5_1).f4).length c106_4, .slice A106_5 ((rd_T108 l0 x5_1).f5).length c106_5] 108 (0, 0)) (by (with_reducible repeat (first | refine bN ?_ _ | refine bD ?_ | refine bA ?_ _)); refine blk_far ?_ NB108_109.out _; (with_reducible repeat (first | refine bN ?_ _ | refine bD ?_ | refine bA ?_ _)); refine blk_far ?_ NB108_109.out _; (with_reducible repeat (first | refine bN ?_ _ | refine bD ?_ | refine bA ?_ _)); refine blk_far ?_ NB108_109.out _; (with_reducible repeat (first | refine bN ?_ _ | refine bD ?_ | refine bA ?_ _)); refine blk_far ?_ NB108_109.out _; (with_reducible repeat (first | refine bN ?_ _ | refine bD ?_ | refine bA ?_ _)); refine blk_far ?_ NB108_109.out _; (with_reducible repeat (first | refine bN ?_ _ | refine bD ?_ | refine bA ?_ _)); refine blk_far ?_ NB108_109.out _; (with_reducible repeat (first | refine bN ?_ _ | refine bD ?_ | refine bA ?_ _)); refine blk_put (cs := #[.int .i64 ((rd_T108 l0 x5_1).f0), .string ((rd_T108 l0 x5_1).f1), .string ((rd_T108 l0 x5_1).f2), .slice A106_3 ((rd_T108 l0 x5_1).f3).length c106_3, .slice A106_4 ((rd_T108 l0 x5_1).f4).length c106_4, .slice none 0 0]) ?_ 5 _ rfl; (with_reducible repeat (first | refine bN ?_ _ | refine bD ?_ | refine bA ?_ _)); refine blk_put (cs := #[.int .i64 ((rd_T108 l0 x5_1).f0), .string ((rd_T108 l0 x5_1).f1), .string ((rd_T108 l0 x5_1).f2), .slice A106_3 ((rd_T108 l0 x5_1).f3).length c106_3, .slice none 0 0, .slice none 0 0]) ?_ 4 _ rfl; (with_reducible repeat (first | refine bN ?_ _ | refine bD ?_ | refine bA ?_ _)); refine blk_put (cs := #[.int .i64 ((rd_T108 l0 x5_1).f0), .string ((rd_T108 l0 x5_1).f1), .string ((rd_T108 l0 x5_1).f2), .slice none 0 0, .slice none 0 0, .slice none 0 0]) ?_ 3 _ rfl; (with_reducible repeat (first | refine bN ?_ _ | refine bD ?_ | refine bA ?_ _)); refine blk_put (cs := #[.int .i64 ((rd_T108 l0 x5_1).f0), .string ((rd_T108 l0 x5_1).f1), .string (⟨#[]⟩ : ByteArray), .slice none 0 0, .slice none 0 0, .slice none 0 0]) ?_ 2 _ rfl; (with_reducible repeat (first | refine bN ?_ _ | refine bD ?_ | refine bA ?_ _)); refine blk_put (cs := #[.int .i64 ((rd_T108 l0 x5_1).f0), .string (⟨#[]⟩ : ByteArray), .string (⟨#[]⟩ : ByteArray), .slice none 0 0, .slice none 0 0, .slice none 0 0]) ?_ 1 _ rfl; (with_reducible repeat (first | refine bN ?_ _ | refine bD ?_ | refine bA ?_ _)); refine blk_put (cs := #[.int .i64 0, .string (⟨#[]⟩ : ByteArray), .string (⟨#[]⟩ : ByteArray), .slice none 0 0, .slice none 0 0, .slice none 0 0]) ?_ 0 _ rfl; (with_reducible repeat (first | refine bN ?_ _ | refine bD ?_ | refine bA ?_ _)); exact BK108.out) hb); have n1_ := Aside0.mk (blk_below (g := gb109) (o := .cells #[.int .i64 ((rd_T108 l1 x5_1).f0), .string ((rd_T108 l1 x5_1).f1), .string ((rd_T108 l1 x5_1).f2), .slice A107_3 ((rd_T108 l1 x5_1).f3).length c107_3, .slice A107_4 ((rd_T108 l1 x5_1).f4).length c107_4, .slice A107_5 ((rd_T108 l1 x5_1).f5).length c107_5] 108 (0, 0)) (by (with_reducible repeat (first | refine bN ?_ _ | refine bD ?_ | refine bA ?_ _)); refine blk_put (cs := #[.int .i64 ((rd_T108 l1 x5_1).f0), .string ((rd_T108 l1 x5_1).f1), .string ((rd_T108 l1 x5_1).f2), .slice A107_3 ((rd_T108 l1 x5_1).f3).length c107_3, .slice A107_4 ((rd_T108 l1 x5_1).f4).length c107_4, .slice none 0 0]) ?_ 5 _ rfl; (with_reducible repeat (first | refine bN ?_ _ | refine bD ?_ | refine bA ?_ _)); refine blk_put (cs := #[.int .i64 ((rd_T108 l1 x5_1).f0), .string ((rd_T108 l1 x5_1).f1), .string ((rd_T108 l1 x5_1).f2), .slice A107_3 ((rd_T108 l1 x5_1).f3).length c107_3, .slice none 0 0, .slice none 0 0]) ?_ 4 _ rfl; (with_reducible repeat (first | refine bN ?_ _ | refine bD ?_ | refine bA ?_ _)); refine blk_put (cs := #[.int .i64 ((rd_T108 l1 x5_1).f0), .string ((rd_T108 l1 x5_1).f1), .string ((rd_T108 l1 x5_1).f2), .slice none 0 0, .slice none 0 0, .slice none 0 0]) ?_ 3 _ rfl; (with_reducible repeat (first | refine bN ?_ _ | refine bD ?_ | refine bA ?_ _)); refine blk_put (cs := #[.int .i64 ((rd_T108 l1 x5_1).f0), .string ((rd_T108 l1 x5_1).f1), .string (⟨#[]⟩ : ByteArray), .slice none 0 0, .slice none 0 0, .slice none 0 0]) ?_ 2 _ rfl; (with_reducible repeat (first | refine bN ?_ _ | refine bD ?_ | refine bA ?_ _)); refine blk_put (cs := #[.int .i64 ((rd_T108 l1 x5_1).f0), .string (⟨#[]⟩ : ByteArray), .string (⟨#[]⟩ : ByteArray), .slice none 0 0, .slice none 0 0, .slice none 0 0]) ?_ 1 _ rfl; (with_reducible repeat (first | refine bN ?_ _ | refine bD ?_ | refine bA ?_ _)); refine blk_put (cs := #[.int .i64 0, .string (⟨#[]⟩ : ByteArray), .string (⟨#[]⟩ : ByteArray), .slice none 0 0, .slice none 0 0, .slice none 0 0]) ?_ 0 _ rfl; (with_reducible repeat (first | refine bN ?_ _ | refine bD ?_ | refine bA ?_ _)); refine blk_far ?_ NB109_108.out _; (with_reducible repeat (first | refine bN ?_ _ | refine bD ?_ | refine bA ?_ _)); refine blk_far ?_ NB109_108.out _; (with_reducible repeat (first | refine bN ?_ _ | refine bD ?_ | refine bA ?_ _)); refine blk_far ?_ NB109_108.out _; (with_reducible repeat (first | refine bN ?_ _ | refine bD ?_ | refine bA ?_ _)); refine blk_far ?_ NB109_108.out _; (with_reducible repeat (first | refine bN ?_ _ | refine bD ?_ | refine bA ?_ _)); refine blk_far ?_ NB109_108.out _; (with_reducible repeat (first | refine bN ?_ _ | refine bD ?_ | refine bA ?_ _)); refine blk_far ?_ NB109_108.out _; (with_reducible repeat (first | refine bN ?_ _ | refine bD ?_ | refine bA ?_ _)); exact BK109.out) hb); have n2_ := Aside0.mk (below_step (by repeat (first | (with_reducible first | exact HB.out | apply below_alloc | apply wN | apply wD | refine below_set ?_ GE108.out | refine below_set ?_ GE109.out) | exact HB.out)) hb); clear BK108; clear BK109; clear HB; have BK108 := n0_; have BK109 := n1_; have HB := n2_; clear n0_ n1_ n2_; (try clear hb); (try clear hb2); (try clear hk); (try clear hi)))
                      go_ret
                      exact ⟨by first | rfl | (simp [errW_none, errW_some] <;> rfl) | (simp [*, errW_none, errW_some] <;> rfl), by repeat (first | (with_reducible first | exact HB.out | apply below_alloc | apply wN | apply wD | refine below_set ?_ GE108.out | refine below_set ?_ GE109.out) | exact HB.out)⟩
                  · rw [if_neg c9] at H
                    have c9b0 : (((rd_T108 l0 x5_1).f2).toList == ((rd_T108 l1 x5_1).f2).toList) = false := beq_eq_false_iff_ne.mpr c9
                    have c9b1 : (((rd_T108 l0 x5_1).f2).toList != ((rd_T108 l1 x5_1).f2).toList) = true := bne_iff_ne.mpr c9
                    obtain rfl := Option.some.inj H
                    try go_wp2
                    go_ret
                    exact ⟨by first | rfl | (simp [errW_none, errW_some] <;> rfl) | (simp [*, errW_none, errW_some] <;> rfl), by repeat (first | (with_reducible first | exact HB.out | apply below_alloc | apply wN | apply wD | refine below_set ?_ GE108.out | refine below_set ?_ GE109.out) | exact HB.out)⟩
                · rw [if_neg c8] at H
                  have c8b0 : (((rd_T108 l0 x5_1).f1).toList == ((rd_T108 l1 x5_1).f1).toList) = false := beq_eq_false_iff_ne.mpr c8
                  have c8b1 : (((rd_T108 l0 x5_1).f1).toList != ((rd_T108 l1 x5_1).f1).toList) = true := bne_iff_ne.mpr c8
                  obtain rfl := Option.some.inj H
                  try go_wp2
                  go_ret
                  exact ⟨by first | rfl | (simp [errW_none, errW_some] <;> rfl) | (simp [*, errW_none, errW_some] <;> rfl), by repeat (first | (with_reducible first | exact HB.out | apply below_alloc | apply wN | apply wD | refine below_set ?_ GE108.out | refine below_set ?_ GE109.out) | exact HB.out)⟩
              · rw [if_neg c7] at H
                have c7b0 : (((rd_T108 l0 x5_1).f0) == ((rd_T108 l1 x5_1).f0)) = false := beq_eq_false_iff_ne.mpr c7
                have c7b1 : (((rd_T108 l0 x5_1).f0) != ((rd_T108 l1 x5_1).f0)) = true := bne_iff_ne.mpr c7
                obtain rfl := Option.some.inj H
                try go_wp2
                go_ret
                exact ⟨by first | rfl | (simp [errW_none, errW_some] <;> rfl) | (simp [*, errW_none, errW_some] <;> rfl), by repeat (first | (with_reducible first | exact HB.out | apply below_alloc | apply wN | apply wD | refine below_set ?_ GE108.out | refine below_set ?_ GE109.out) | exact HB.out)⟩
            · rw [if_neg c6] at H
              exact absurd H (by simp)
          · rw [if_neg c5] at H
            exact absurd H (by simp)
        · rw [if_neg c4] at H
          have c4b0 : decide (x5_1 < (l0.length : Int)) = false := decide_eq_false c4
          clear c4
          obtain rfl := Option.some.inj H
          go_wp2
          go_ret
          exact ⟨by first | rfl | (simp [errW_none, errW_some] <;> rfl) | (simp [*, errW_none, errW_some] <;> rfl), by repeat (first | (with_reducible first | exact HB.out | apply below_alloc | apply wN | apply wD) | exact HB.out)⟩
  · rw [if_neg c3] at H
    have c3b0 : ((l0.length : Int) == (l1.length : Int)) = false := beq_eq_false_iff_ne.mpr c3
    have c3b1 : ((l0.length : Int) != (l1.length : Int)) = true := bne_iff_ne.mpr c3
    have c3b2 : (l0.length == l1.length) = false := by first | simpa using c3 | (simp at c3 ⊢; omega)
    obtain rfl := Option.some.inj H
    go_enter Tryd.func37, Tryd.ntmps37
    go_wp2
    go_ret
    exact ⟨by first | rfl | (simp [errW_none, errW_some] <;> rfl) | (simp [*, errW_none, errW_some] <;> rfl), by repeat (first | (with_reducible first | exact HB.out | apply below_alloc | apply wN | apply wD) | exact HB.out)⟩
end Go.Proofs.YtiffnkmbmenhfaaDoor.Cx
