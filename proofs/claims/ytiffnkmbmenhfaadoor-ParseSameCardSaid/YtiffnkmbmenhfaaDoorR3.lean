import Derived.Test.YtiffnkmbmenhfaaDoorR0
import Derived.Test.YtiffnkmbmenhfaaDoorR2
/-! Turned from a print. -/
namespace Go.Proofs.YtiffnkmbmenhfaaDoor.Cx
open Go.RowKit Go.Proofs.YtiffnkmbmenhfaaDoorW.PrintWords Go.Proofs.YtiffnkmbmenhfaaDoorW.PrintLast Go.Proofs.YtiffnkmbmenhfaaDoorW.PrintMore
attribute [local go_sem] max2_int min2_int max_two min_two max_three min_three max_four min_four   -- for this text's walks alone
set_option linter.unusedVariables false
set_option linter.unusedSimpArgs false
attribute [local go_sem high] eqA70
def rM.l0 : Nat → List (S74) → List (S74) → Int → Option (Bool)
  | 0, _, _, _ => none
  | k + 1, x0, x1, x5 => if x5 < (x0.length : Int) then (if 0 ≤ x5 then (if x5 < (x1.length : Int) then (if ((rd_T74 x0 x5).f0).toList = ((rd_T74 x1 x5).f0).toList then (if (((rd_T74 x0 x5).f1) != ((rd_T74 x1 x5).f1)) = true then (some false) else (if ((rd_T74 x0 x5).f3).toList = ((rd_T74 x1 x5).f3).toList then ((rF.f k ((rd_T74 x0 x5).f2) ((rd_T74 x1 x5).f2)).bind fun t160 => (if t160 = true then ((rS.f k ((rd_T74 x0 x5).f4) ((rd_T74 x1 x5).f4)).bind fun t161 => (if t161 = true then (rM.l0 k x0 x1 (wrap64 (x5 + 1))) else (some false))) else (some false))) else (some false))) else (some false)) else (none)) else (none)) else (some true)
def rM.f (k : Nat) (l0 : List (S74)) (l1 : List (S74)) : Option (Bool) := if (l0.length : Int) = (l1.length : Int) then (rM.l0 k l0 l1 0) else (some false)
def rM.T6 : Bool × List (List Nat × List Nat) := (true, [([], []), ([], []), ([0, 1], [0, 1]), ([2], [2]), ([], []), ([], []), ([4, 5], [4, 5]), ([6], [6]), ([], []), ([], []), ([8, 3, 0, 1, 2, 3, 8, 9], [3, 8]), ([9, 7, 10, 0, 1, 2, 3, 4, 5, 6, 7, 8, 9, 10], [7, 9])])
def rM.B6 : List Nat := [0, 0, 3, 7, 0, 0, 48, 112, 0, 0, 783, 2047]
theorem rM.tab6 : rtab .any (opsOf Tryd.f20 6) = rM.T6 := by kernel_rfl
theorem rM.bits6 : waitsOk rM.T6.2 rM.B6 = true := by kernel_rfl
set_option maxHeartbeats 8000000 in
set_option maxRecDepth 100000 in
theorem rM.calls (k : Nat) (A0 : Option Addr) (c0 : Nat) (l0 : List (S74)) (A1 : Option Addr) (c1 : Nat) (l1 : List (S74)) (r : Bool) (w : World) (hr0 : Kd.C k74 w A0 l0.length l0) (hc0 : l0.length ≤ c0) (hr1 : Kd.C k74 w A1 l1.length l1) (hc1 : l1.length ≤ c1) (h : rM.f k l0 l1 = some r) :
    Calls Tryd.prog 20 #[.slice A0 l0.length c0, .slice A1 l1.length c1] w fun e w' => e = .returned (.bool r) ∧ Below w.heap.size w w' := by
  have hu74 := Tryd.underlying74
  have HR0 := Aside0.mk hr0
  have HC0 := Aside0.mk hc0
  clear hr0 hc0
  have HR1 := Aside0.mk hr1
  have HC1 := Aside0.mk hc1
  clear hr1 hc1
  have HB := Aside0.mk (Below.refl w.heap.size w)
  have H : (if (l0.length : Int) = (l1.length : Int) then (rM.l0 k l0 l1 0) else (some false)) = some r := h
  clear h
  by_cases c3 : (l0.length : Int) = (l1.length : Int)
  · rw [if_pos c3] at H
    have c3b0 : ((l0.length : Int) == (l1.length : Int)) = true := beq_iff_eq.mpr c3
    have c3b1 : ((l0.length : Int) != (l1.length : Int)) = false := bne_eq_false_iff_eq.mpr c3
    have c3b2 : (l0.length == l1.length) = true := by first | simpa using c3 | (simp at c3 ⊢; omega)
    clear c3
    have H' := Aside0.mk H
    clear H
    go_enter Tryd.func20, Tryd.ntmps20
    go_wp2
    go_loopg [5] k (fun kq v5 w' => ∃ (x5_1 : Int), v5 = .int .i64 x5_1 ∧ Aside0 (rM.l0 kq l0 l1 x5_1 = some r) ∧ Aside0 (kq ≤ k) ∧ Aside0 (Below w.heap.size w w'))
    case atStart => exact ⟨(0), (by first | rfl | (simp; done) | (simp [*]; done)), H', ⟨Nat.le_refl _⟩, ⟨by repeat (first | (with_reducible first | exact HB.out | apply below_alloc | apply wN | apply wD) | exact HB.out)⟩⟩
    case round =>
      clear H'
      try clear c1
      try clear c2
      try clear p2
      try clear c3
      try clear c3b0
      try clear c3b1
      try clear c3b2
      obtain ⟨x5_1, rfl, HA, HK1, HB⟩ := hrel
      cases gk with
      | zero => exact absurd HA.out (by simp [rM.l0])
      | succ k1 =>
        have H := HA.out
        clear HA
        simp only [rM.l0] at H
        by_cases c4 : x5_1 < (l0.length : Int)
        · rw [if_pos c4] at H
          have c4b0 : decide (x5_1 < (l0.length : Int)) = true := decide_eq_true c4
          clear c4
          by_cases c5 : 0 ≤ x5_1
          · rw [if_pos c5] at H
            have c5b0 : decide (0 ≤ x5_1) = true := decide_eq_true c5
            clear c5
            by_cases c6 : x5_1 < (l1.length : Int)
            · rw [if_pos c6] at H
              have c6b0 : decide (x5_1 < (l1.length : Int)) = true := decide_eq_true c6
              clear c6
              have HX_ := Aside0.mk H
              clear H
              try go_wp2
              have n0_ := Aside0.mk (wD HB.out)
              clear HB
              have HB := n0_
              clear n0_
              have p156 : 0 ≤ (x5_1 : Int) := of_decide_eq_true (by first | (with_reducible assumption) | assumption)
              have q156 : x5_1 < (l0.length : Int) := of_decide_eq_true (by first | (with_reducible assumption) | assumption)
              obtain ⟨ad156, A156_2, c156_2, A156_4, c156_4, e156, hx156_0, hx156_1, hx156_2, hx156_3, hx156_4, hl156_2, hi156_2, hl156_4, hi156_4⟩ := at_T74 HR0.out x5_1 p156 q156
              have hw156_4 := hx156_4
              have hw156_3 := hx156_3
              have hw156_2 := hx156_2
              have hw156_1 := hx156_1
              have hw156_0 := hx156_0
              cases e156
              replace hx156_0 := (HB.out.cell (World.block_lt_of_cell? w _ hx156_0)).trans hx156_0
              replace hx156_1 := (HB.out.cell (World.block_lt_of_cell? w _ hx156_1)).trans hx156_1
              replace hx156_2 := (HB.out.cell (World.block_lt_of_cell? w _ hx156_2)).trans hx156_2
              replace hx156_3 := (HB.out.cell (World.block_lt_of_cell? w _ hx156_3)).trans hx156_3
              replace hx156_4 := (HB.out.cell (World.block_lt_of_cell? w _ hx156_4)).trans hx156_4
              have HR156_2 := Aside0.mk hi156_2
              have HC156_2 := Aside0.mk hl156_2
              clear hi156_2 hl156_2
              have HR156_4 := Aside0.mk hi156_4
              have HC156_4 := Aside0.mk hl156_4
              clear hi156_4 hl156_4
              replace p156 := eq_true p156
              replace q156 := eq_true q156
              have p157 : 0 ≤ (x5_1 : Int) := of_decide_eq_true (by first | (with_reducible assumption) | assumption)
              have q157 : x5_1 < (l1.length : Int) := of_decide_eq_true (by first | (with_reducible assumption) | assumption)
              obtain ⟨ad157, A157_2, c157_2, A157_4, c157_4, e157, hx157_0, hx157_1, hx157_2, hx157_3, hx157_4, hl157_2, hi157_2, hl157_4, hi157_4⟩ := at_T74 HR1.out x5_1 p157 q157
              have hw157_4 := hx157_4
              have hw157_3 := hx157_3
              have hw157_2 := hx157_2
              have hw157_1 := hx157_1
              have hw157_0 := hx157_0
              cases e157
              replace hx157_0 := (HB.out.cell (World.block_lt_of_cell? w _ hx157_0)).trans hx157_0
              replace hx157_1 := (HB.out.cell (World.block_lt_of_cell? w _ hx157_1)).trans hx157_1
              replace hx157_2 := (HB.out.cell (World.block_lt_of_cell? w _ hx157_2)).trans hx157_2
              replace hx157_3 := (HB.out.cell (World.block_lt_of_cell? w _ hx157_3)).trans hx157_3
              replace hx157_4 := (HB.out.cell (World.block_lt_of_cell? w _ hx157_4)).trans hx157_4
              have HR157_2 := Aside0.mk hi157_2
              have HC157_2 := Aside0.mk hl157_2
              clear hi157_2 hl157_2
              have HR157_4 := Aside0.mk hi157_4
              have HC157_4 := Aside0.mk hl157_4
              clear hi157_4 hl157_4
              replace p157 := eq_true p157
              replace q157 := eq_true q157
              refine start_ (n := 12) (S := fun w' => w'.cell? (ad156.add ((x5_1).toNat * 5)) = some (.string ((rd_T74 l0 x5_1).f0)) ∧ w'.cell? ⟨(ad156.add ((x5_1).toNat * 5)).block, (ad156.add ((x5_1).toNat * 5)).off + 1, none⟩ = some (.bool ((rd_T74 l0 x5_1).f1)) ∧ w'.cell? ⟨(ad156.add ((x5_1).toNat * 5)).block, (ad156.add ((x5_1).toNat * 5)).off + 2, none⟩ = some (.slice A156_2 ((rd_T74 l0 x5_1).f2).length c156_2) ∧ w'.cell? ⟨(ad156.add ((x5_1).toNat * 5)).block, (ad156.add ((x5_1).toNat * 5)).off + 3, none⟩ = some (.string ((rd_T74 l0 x5_1).f3)) ∧ w'.cell? ⟨(ad156.add ((x5_1).toNat * 5)).block, (ad156.add ((x5_1).toNat * 5)).off + 4, none⟩ = some (.slice A156_4 ((rd_T74 l0 x5_1).f4).length c156_4) ∧ w'.cell? (ad157.add ((x5_1).toNat * 5)) = some (.string ((rd_T74 l1 x5_1).f0)) ∧ w'.cell? ⟨(ad157.add ((x5_1).toNat * 5)).block, (ad157.add ((x5_1).toNat * 5)).off + 1, none⟩ = some (.bool ((rd_T74 l1 x5_1).f1)) ∧ w'.cell? ⟨(ad157.add ((x5_1).toNat * 5)).block, (ad157.add ((x5_1).toNat * 5)).off + 2, none⟩ = some (.slice A157_2 ((rd_T74 l1 x5_1).f2).length c157_2) ∧ w'.cell? ⟨(ad157.add ((x5_1).toNat * 5)).block, (ad157.add ((x5_1).toNat * 5)).off + 3, none⟩ = some (.string ((rd_T74 l1 x5_1).f3)) ∧ w'.cell? ⟨(ad157.add ((x5_1).toNat * 5)).block, (ad157.add ((x5_1).toNat * 5)).off + 4, none⟩ = some (.slice A157_4 ((rd_T74 l1 x5_1).f4).length c157_4)) (ds := []) #[false, false, false, false, false, false, false, false, false, false, false, false] (by kernel_rfl) rfl rfl ⟨((HB.out.cell (World.block_lt_of_cell? w _ hw156_0)).trans hw156_0), ((HB.out.cell (World.block_lt_of_cell? w _ hw156_1)).trans hw156_1), ((HB.out.cell (World.block_lt_of_cell? w _ hw156_2)).trans hw156_2), ((HB.out.cell (World.block_lt_of_cell? w _ hw156_3)).trans hw156_3), ((HB.out.cell (World.block_lt_of_cell? w _ hw156_4)).trans hw156_4), ((HB.out.cell (World.block_lt_of_cell? w _ hw157_0)).trans hw157_0), ((HB.out.cell (World.block_lt_of_cell? w _ hw157_1)).trans hw157_1), ((HB.out.cell (World.block_lt_of_cell? w _ hw157_2)).trans hw157_2), ((HB.out.cell (World.block_lt_of_cell? w _ hw157_3)).trans hw157_3), ((HB.out.cell (World.block_lt_of_cell? w _ hw157_4)).trans hw157_4)⟩ (fun hHeld => ?_); refine with_tabW rM.tab6 rM.bits6 (fun HT_ HW_ => ?_)
              generalize wr.drew = w9 at HB HR156_2 HR156_4 HR157_2 HR157_4 hx156_0 hx156_1 hx156_2 hx156_3 hx156_4 hx157_0 hx157_1 hx157_2 hx157_3 hx157_4 hHeld ⊢
              refine pure_ (i := 0) (N := some 19) (v := ?_) (a' := ?_) #[true, false, false, false, false, false, false, false, false, false, false, false] rfl rfl (any_of HT_.out (by kernel_rfl)) (fun _ _ _ h => h) (Or.inl ⟨by rfl, ?_⟩) ?_ ?_
              rotate_left
              · intro w'
                go_simp
                with_reducible rfl
              rotate_left
              · simp only [Act.put, List.setIfInBounds_toArray, List.set_cons_zero, List.set_cons_succ, i64_w, i32_w]
                rfl
              refine pure_ (i := 1) (N := some 20) (v := ?_) (a' := ?_) #[true, true, false, false, false, false, false, false, false, false, false, false] rfl rfl (any_of HT_.out (by kernel_rfl)) (fun _ _ _ h => h) (Or.inl ⟨by rfl, ?_⟩) ?_ ?_
              rotate_left
              · intro w'
                go_simp
                with_reducible rfl
              rotate_left
              · simp only [Act.put, List.setIfInBounds_toArray, List.set_cons_zero, List.set_cons_succ, i64_w, i32_w]
                rfl
              refine pure_ (i := 2) (N := some 21) (v := ?_) (a' := ?_) #[true, true, true, false, false, false, false, false, false, false, false, false] rfl rfl (any_of HT_.out (by kernel_rfl)) (fun _ _ _ h => h) (Or.inl ⟨by rfl, ?_⟩) ?_ ?_
              rotate_left
              · intro w'
                go_simp
                with_reducible rfl
              rotate_left
              · simp only [Act.put, List.setIfInBounds_toArray, List.set_cons_zero, List.set_cons_succ, i64_w, i32_w]
                rfl
              refine pure_ (i := 4) (N := some 23) (v := ?_) (a' := ?_) #[true, true, true, false, true, false, false, false, false, false, false, false] rfl rfl (any_of HT_.out (by kernel_rfl)) (fun _ _ _ h => h) (Or.inl ⟨by rfl, ?_⟩) ?_ ?_
              rotate_left
              · intro w'
                go_simp
                with_reducible rfl
              rotate_left
              · simp only [Act.put, List.setIfInBounds_toArray, List.set_cons_zero, List.set_cons_succ, i64_w, i32_w]
                rfl
              refine pure_ (i := 5) (N := some 24) (v := ?_) (a' := ?_) #[true, true, true, false, true, true, false, false, false, false, false, false] rfl rfl (any_of HT_.out (by kernel_rfl)) (fun _ _ _ h => h) (Or.inl ⟨by rfl, ?_⟩) ?_ ?_
              rotate_left
              · intro w'
                go_simp
                with_reducible rfl
              rotate_left
              · simp only [Act.put, List.setIfInBounds_toArray, List.set_cons_zero, List.set_cons_succ, i64_w, i32_w]
                rfl
              refine pure_ (i := 6) (N := some 25) (v := ?_) (a' := ?_) #[true, true, true, false, true, true, true, false, false, false, false, false] rfl rfl (any_of HT_.out (by kernel_rfl)) (fun _ _ _ h => h) (Or.inl ⟨by rfl, ?_⟩) ?_ ?_
              rotate_left
              · intro w'
                go_simp
                with_reducible rfl
              rotate_left
              · simp only [Act.put, List.setIfInBounds_toArray, List.set_cons_zero, List.set_cons_succ, i64_w, i32_w]
                rfl
              refine take_ (i := 3) (N := some 22) (v := ?_) (a' := ?_) #[true, true, true, true, true, true, true, false, false, false, false, false] rfl rfl (take_ofW HT_.out HW_.out (by kernel_rfl)) (fun _ _ _ h => h) (Or.inl ⟨by rfl, ?_⟩) hHeld ?_ ?_
              rotate_left
              · rintro w' ⟨s0, s1, s2, s3, s4, s5, s6, s7, s8, s9⟩
                go_simp
                with_reducible rfl
              rotate_left
              · simp only [Act.put, List.setIfInBounds_toArray, List.set_cons_zero, List.set_cons_succ, i64_w, i32_w]
                rfl
              refine take_ (i := 7) (N := some 26) (v := ?_) (a' := ?_) #[true, true, true, true, true, true, true, true, false, false, false, false] rfl rfl (take_ofW HT_.out HW_.out (by kernel_rfl)) (fun _ _ _ h => h) (Or.inl ⟨by rfl, ?_⟩) hHeld ?_ ?_
              rotate_left
              · rintro w' ⟨s0, s1, s2, s3, s4, s5, s6, s7, s8, s9⟩
                go_simp
                with_reducible rfl
              rotate_left
              · simp only [Act.put, List.setIfInBounds_toArray, List.set_cons_zero, List.set_cons_succ, i64_w, i32_w]
                rfl
              refine join_ (σ := Nat × Nat) 2 #[true, true, true, true, true, true, true, true, true, true, false, false] (fun s_ => [(6, .pointer (some ⟨s_.1, 0, none⟩)), (7, .pointer (some ⟨s_.2, 0, none⟩))]) (fun s_ w' => (w'.cell? (ad156.add ((x5_1).toNat * 5)) = some (.string ((rd_T74 l0 x5_1).f0)) ∧ w'.cell? ⟨(ad156.add ((x5_1).toNat * 5)).block, (ad156.add ((x5_1).toNat * 5)).off + 1, none⟩ = some (.bool ((rd_T74 l0 x5_1).f1)) ∧ w'.cell? ⟨(ad156.add ((x5_1).toNat * 5)).block, (ad156.add ((x5_1).toNat * 5)).off + 2, none⟩ = some (.slice A156_2 ((rd_T74 l0 x5_1).f2).length c156_2) ∧ w'.cell? ⟨(ad156.add ((x5_1).toNat * 5)).block, (ad156.add ((x5_1).toNat * 5)).off + 3, none⟩ = some (.string ((rd_T74 l0 x5_1).f3)) ∧ w'.cell? ⟨(ad156.add ((x5_1).toNat * 5)).block, (ad156.add ((x5_1).toNat * 5)).off + 4, none⟩ = some (.slice A156_4 ((rd_T74 l0 x5_1).f4).length c156_4) ∧ w'.cell? (ad157.add ((x5_1).toNat * 5)) = some (.string ((rd_T74 l1 x5_1).f0)) ∧ w'.cell? ⟨(ad157.add ((x5_1).toNat * 5)).block, (ad157.add ((x5_1).toNat * 5)).off + 1, none⟩ = some (.bool ((rd_T74 l1 x5_1).f1)) ∧ w'.cell? ⟨(ad157.add ((x5_1).toNat * 5)).block, (ad157.add ((x5_1).toNat * 5)).off + 2, none⟩ = some (.slice A157_2 ((rd_T74 l1 x5_1).f2).length c157_2) ∧ w'.cell? ⟨(ad157.add ((x5_1).toNat * 5)).block, (ad157.add ((x5_1).toNat * 5)).off + 3, none⟩ = some (.string ((rd_T74 l1 x5_1).f3)) ∧ w'.cell? ⟨(ad157.add ((x5_1).toNat * 5)).block, (ad157.add ((x5_1).toNat * 5)).off + 4, none⟩ = some (.slice A157_4 ((rd_T74 l1 x5_1).f4).length c157_4)) ∧ (w'.heap[s_.1]? = some (.cells #[.string (⟨#[]⟩ : ByteArray), .bool false, .slice none 0 0, .string (⟨#[]⟩ : ByteArray), .slice none 0 0] 74 (0, 0))) ∧ (w'.heap[s_.2]? = some (.cells #[.string (⟨#[]⟩ : ByteArray), .bool false, .slice none 0 0, .string (⟨#[]⟩ : ByteArray), .slice none 0 0] 74 (0, 0))) ∧ (w.heap.size ≤ s_.1) ∧ (w.heap.size ≤ s_.1) ∧ (s_.2 ≠ s_.1) ∧ (s_.1 ≠ s_.2) ∧ (w.heap.size ≤ s_.2) ∧ (w.heap.size ≤ s_.2) ∧ (Below w.heap.size w w')) ?_ ?_
              rotate_left
              · intro hCont
                refine two_ (i := 8) (j := 9) (Ni := some 6) (Nj := some 7) #[true, true, true, true, true, true, true, true, true, false, false, false] #[true, true, true, true, true, true, true, true, false, true, false, false] rfl rfl rfl rfl (two_of HT_.out (by kernel_rfl)) (by decide) (by decide) (fun K hK => ?_) (fun K hK => ?_)
                · skip
                  refine box_step ?hg (N := 6) ?hd (cs := #[.string (⟨#[]⟩ : ByteArray), .bool false, .slice none 0 0, .string (⟨#[]⟩ : ByteArray), .slice none 0 0]) (t := 74) ?hr ?_; (case hd => rfl); (case hg => rfl); (case hr => first | (go_simp; done) | (go_simp; rfl))
                  intro gb158 hg w10 hbox hb
                  have n0_ := Aside0.mk (below_step (by repeat (first | (with_reducible first | exact HB.out | apply below_alloc | apply wN | apply wD) | exact HB.out)) hb)
                  have n1_ := Aside0.mk (hbox)
                  have n2_ := Aside0.mk ((by rw [hg]; exact (below_size (by repeat (first | (with_reducible first | exact HB.out | apply below_alloc | apply wN | apply wD) | exact HB.out))) : w.heap.size ≤ gb158))
                  have n3_ := Aside0.mk ((by rw [hg]; exact (below_size (by repeat (first | (with_reducible first | exact HB.out | apply below_alloc | apply wN | apply wD) | exact HB.out))) : w.heap.size ≤ gb158))
                  clear HB
                  have HB := n0_
                  have BK158 := n1_
                  have GW158 := n2_
                  have GE158 := n3_
                  clear n0_ n1_ n2_ n3_
                  clear hb hbox hg
                  refine hK.out _ _ ⟨((HB.out.cell (World.block_lt_of_cell? w _ hw156_0)).trans hw156_0), ((HB.out.cell (World.block_lt_of_cell? w _ hw156_1)).trans hw156_1), ((HB.out.cell (World.block_lt_of_cell? w _ hw156_2)).trans hw156_2), ((HB.out.cell (World.block_lt_of_cell? w _ hw156_3)).trans hw156_3), ((HB.out.cell (World.block_lt_of_cell? w _ hw156_4)).trans hw156_4), ((HB.out.cell (World.block_lt_of_cell? w _ hw157_0)).trans hw157_0), ((HB.out.cell (World.block_lt_of_cell? w _ hw157_1)).trans hw157_1), ((HB.out.cell (World.block_lt_of_cell? w _ hw157_2)).trans hw157_2), ((HB.out.cell (World.block_lt_of_cell? w _ hw157_3)).trans hw157_3), ((HB.out.cell (World.block_lt_of_cell? w _ hw157_4)).trans hw157_4)⟩ (fun hHeld => ?_)
                  clear hK K
                  refine norm_ (a' := ?_) ?_ ?_
                  rotate_left
                  · show Act.put _ (some 6) _ = _
                    simp only [Act.put, List.setIfInBounds_toArray, List.set_cons_zero, List.set_cons_succ, i64_w, i32_w]
                    rfl
                  refine one_ (i := 9) (N := some 7) #[true, true, true, true, true, true, true, true, true, true, false, false] rfl rfl (one_of HT_.out (by kernel_rfl)) (by decide) (fun K hK => ?_)
                  refine box_step ?hg (N := 7) ?hd (cs := #[.string (⟨#[]⟩ : ByteArray), .bool false, .slice none 0 0, .string (⟨#[]⟩ : ByteArray), .slice none 0 0]) (t := 74) ?hr ?_; (case hd => rfl); (case hg => rfl); (case hr => first | (go_simp; done) | (go_simp; rfl))
                  intro gb159 hg w11 hbox hb
                  have n0_ := Aside0.mk (blk_below (g := gb158) (o := .cells #[.string (⟨#[]⟩ : ByteArray), .bool false, .slice none 0 0, .string (⟨#[]⟩ : ByteArray), .slice none 0 0] 74 (0, 0)) (by (with_reducible repeat (first | refine bN ?_ _ | refine bD ?_ | refine bA ?_ _)); exact BK158.out) hb)
                  have n1_ := Aside0.mk (below_step (by repeat (first | (with_reducible first | exact HB.out | apply below_alloc | apply wN | apply wD | refine below_set ?_ GE158.out) | exact HB.out)) hb)
                  have n2_ := Aside0.mk (hbox)
                  have n3_ := Aside0.mk ((by rw [hg]; exact (below_size (by repeat (first | (with_reducible first | exact HB.out | apply below_alloc | apply wN | apply wD | refine below_set ?_ GE158.out) | exact HB.out))) : w.heap.size ≤ gb159))
                  have n4_ := Aside0.mk ((by rw [hg]; exact (below_size (by repeat (first | (with_reducible first | exact HB.out | apply below_alloc | apply wN | apply wD | refine below_set ?_ GE158.out) | exact HB.out))) : w.heap.size ≤ gb159))
                  have n5_ := Aside0.mk ((by rw [hg]; exact Nat.ne_of_lt (blk_lt (g := gb158) (o := .cells #[.string (⟨#[]⟩ : ByteArray), .bool false, .slice none 0 0, .string (⟨#[]⟩ : ByteArray), .slice none 0 0] 74 (0, 0)) (by (with_reducible repeat (first | refine bN ?_ _ | refine bD ?_ | refine bA ?_ _)); exact BK158.out)) : gb158 ≠ gb159))
                  have n6_ := Aside0.mk ((by rw [hg]; exact Nat.ne_of_gt (blk_lt (g := gb158) (o := .cells #[.string (⟨#[]⟩ : ByteArray), .bool false, .slice none 0 0, .string (⟨#[]⟩ : ByteArray), .slice none 0 0] 74 (0, 0)) (by (with_reducible repeat (first | refine bN ?_ _ | refine bD ?_ | refine bA ?_ _)); exact BK158.out)) : gb159 ≠ gb158))
                  clear BK158
                  clear HB
                  have BK158 := n0_
                  have HB := n1_
                  have BK159 := n2_
                  have GW159 := n3_
                  have GE159 := n4_
                  have NB158_159 := n5_
                  have NB159_158 := n6_
                  clear n0_ n1_ n2_ n3_ n4_ n5_ n6_
                  clear hb hbox hg
                  refine hK.out _ _ ⟨((HB.out.cell (World.block_lt_of_cell? w _ hw156_0)).trans hw156_0), ((HB.out.cell (World.block_lt_of_cell? w _ hw156_1)).trans hw156_1), ((HB.out.cell (World.block_lt_of_cell? w _ hw156_2)).trans hw156_2), ((HB.out.cell (World.block_lt_of_cell? w _ hw156_3)).trans hw156_3), ((HB.out.cell (World.block_lt_of_cell? w _ hw156_4)).trans hw156_4), ((HB.out.cell (World.block_lt_of_cell? w _ hw157_0)).trans hw157_0), ((HB.out.cell (World.block_lt_of_cell? w _ hw157_1)).trans hw157_1), ((HB.out.cell (World.block_lt_of_cell? w _ hw157_2)).trans hw157_2), ((HB.out.cell (World.block_lt_of_cell? w _ hw157_3)).trans hw157_3), ((HB.out.cell (World.block_lt_of_cell? w _ hw157_4)).trans hw157_4)⟩ (fun hHeld => ?_)
                  clear hK K
                  refine norm_ (a' := ?_) ?_ ?_
                  rotate_left
                  · show Act.put _ (some 7) _ = _
                    simp only [Act.put, List.setIfInBounds_toArray, List.set_cons_zero, List.set_cons_succ, i64_w, i32_w]
                    rfl
                  exact norm_ (by simp only [putAll, Act.put, List.setIfInBounds_toArray, List.set_cons_zero, List.set_cons_succ]) (hCont (gb158, gb159) _ ⟨hHeld, (by (with_reducible repeat (first | refine bN ?_ _ | refine bD ?_ | refine bA ?_ _)); exact BK158.out), (by (with_reducible repeat (first | refine bN ?_ _ | refine bD ?_ | refine bA ?_ _)); exact BK159.out), GW158.out, GE158.out, NB159_158.out, NB158_159.out, GW159.out, GE159.out, (by repeat (first | (with_reducible first | exact HB.out | apply below_alloc | apply wN | apply wD | refine below_set ?_ GE158.out | refine below_set ?_ GE159.out) | exact HB.out))⟩)
                · skip
                  refine box_step ?hg (N := 7) ?hd (cs := #[.string (⟨#[]⟩ : ByteArray), .bool false, .slice none 0 0, .string (⟨#[]⟩ : ByteArray), .slice none 0 0]) (t := 74) ?hr ?_; (case hd => rfl); (case hg => rfl); (case hr => first | (go_simp; done) | (go_simp; rfl))
                  intro gb159 hg w10 hbox hb
                  have n0_ := Aside0.mk (below_step (by repeat (first | (with_reducible first | exact HB.out | apply below_alloc | apply wN | apply wD) | exact HB.out)) hb)
                  have n1_ := Aside0.mk (hbox)
                  have n2_ := Aside0.mk ((by rw [hg]; exact (below_size (by repeat (first | (with_reducible first | exact HB.out | apply below_alloc | apply wN | apply wD) | exact HB.out))) : w.heap.size ≤ gb159))
                  have n3_ := Aside0.mk ((by rw [hg]; exact (below_size (by repeat (first | (with_reducible first | exact HB.out | apply below_alloc | apply wN | apply wD) | exact HB.out))) : w.heap.size ≤ gb159))
                  clear HB
                  have HB := n0_
                  have BK159 := n1_
                  have GW159 := n2_
                  have GE159 := n3_
                  clear n0_ n1_ n2_ n3_
                  clear hb hbox hg
                  refine hK.out _ _ ⟨((HB.out.cell (World.block_lt_of_cell? w _ hw156_0)).trans hw156_0), ((HB.out.cell (World.block_lt_of_cell? w _ hw156_1)).trans hw156_1), ((HB.out.cell (World.block_lt_of_cell? w _ hw156_2)).trans hw156_2), ((HB.out.cell (World.block_lt_of_cell? w _ hw156_3)).trans hw156_3), ((HB.out.cell (World.block_lt_of_cell? w _ hw156_4)).trans hw156_4), ((HB.out.cell (World.block_lt_of_cell? w _ hw157_0)).trans hw157_0), ((HB.out.cell (World.block_lt_of_cell? w _ hw157_1)).trans hw157_1), ((HB.out.cell (World.block_lt_of_cell? w _ hw157_2)).trans hw157_2), ((HB.out.cell (World.block_lt_of_cell? w _ hw157_3)).trans hw157_3), ((HB.out.cell (World.block_lt_of_cell? w _ hw157_4)).trans hw157_4)⟩ (fun hHeld => ?_)
                  clear hK K
                  refine norm_ (a' := ?_) ?_ ?_
                  rotate_left
                  · show Act.put _ (some 7) _ = _
                    simp only [Act.put, List.setIfInBounds_toArray, List.set_cons_zero, List.set_cons_succ, i64_w, i32_w]
                    rfl
                  refine one_ (i := 8) (N := some 6) #[true, true, true, true, true, true, true, true, true, true, false, false] rfl rfl (one_of HT_.out (by kernel_rfl)) (by decide) (fun K hK => ?_)
                  refine box_step ?hg (N := 6) ?hd (cs := #[.string (⟨#[]⟩ : ByteArray), .bool false, .slice none 0 0, .string (⟨#[]⟩ : ByteArray), .slice none 0 0]) (t := 74) ?hr ?_; (case hd => rfl); (case hg => rfl); (case hr => first | (go_simp; done) | (go_simp; rfl))
                  intro gb158 hg w11 hbox hb
                  have n0_ := Aside0.mk (blk_below (g := gb159) (o := .cells #[.string (⟨#[]⟩ : ByteArray), .bool false, .slice none 0 0, .string (⟨#[]⟩ : ByteArray), .slice none 0 0] 74 (0, 0)) (by (with_reducible repeat (first | refine bN ?_ _ | refine bD ?_ | refine bA ?_ _)); exact BK159.out) hb)
                  have n1_ := Aside0.mk (below_step (by repeat (first | (with_reducible first | exact HB.out | apply below_alloc | apply wN | apply wD | refine below_set ?_ GE159.out) | exact HB.out)) hb)
                  have n2_ := Aside0.mk (hbox)
                  have n3_ := Aside0.mk ((by rw [hg]; exact (below_size (by repeat (first | (with_reducible first | exact HB.out | apply below_alloc | apply wN | apply wD | refine below_set ?_ GE159.out) | exact HB.out))) : w.heap.size ≤ gb158))
                  have n4_ := Aside0.mk ((by rw [hg]; exact (below_size (by repeat (first | (with_reducible first | exact HB.out | apply below_alloc | apply wN | apply wD | refine below_set ?_ GE159.out) | exact HB.out))) : w.heap.size ≤ gb158))
                  have n5_ := Aside0.mk ((by rw [hg]; exact Nat.ne_of_lt (blk_lt (g := gb159) (o := .cells #[.string (⟨#[]⟩ : ByteArray), .bool false, .slice none 0 0, .string (⟨#[]⟩ : ByteArray), .slice none 0 0] 74 (0, 0)) (by (with_reducible repeat (first | refine bN ?_ _ | refine bD ?_ | refine bA ?_ _)); exact BK159.out)) : gb159 ≠ gb158))
                  have n6_ := Aside0.mk ((by rw [hg]; exact Nat.ne_of_gt (blk_lt (g := gb159) (o := .cells #[.string (⟨#[]⟩ : ByteArray), .bool false, .slice none 0 0, .string (⟨#[]⟩ : ByteArray), .slice none 0 0] 74 (0, 0)) (by (with_reducible repeat (first | refine bN ?_ _ | refine bD ?_ | refine bA ?_ _)); exact BK159.out)) : gb158 ≠ gb159))
                  clear BK159
                  clear HB
                  have BK159 := n0_
                  have HB := n1_
                  have BK158 := n2_
                  have GW158 := n3_
                  have GE158 := n4_
                  have NB159_158 := n5_
                  have NB158_159 := n6_
                  clear n0_ n1_ n2_ n3_ n4_ n5_ n6_
                  clear hb hbox hg
                  refine hK.out _ _ ⟨((HB.out.cell (World.block_lt_of_cell? w _ hw156_0)).trans hw156_0), ((HB.out.cell (World.block_lt_of_cell? w _ hw156_1)).trans hw156_1), ((HB.out.cell (World.block_lt_of_cell? w _ hw156_2)).trans hw156_2), ((HB.out.cell (World.block_lt_of_cell? w _ hw156_3)).trans hw156_3), ((HB.out.cell (World.block_lt_of_cell? w _ hw156_4)).trans hw156_4), ((HB.out.cell (World.block_lt_of_cell? w _ hw157_0)).trans hw157_0), ((HB.out.cell (World.block_lt_of_cell? w _ hw157_1)).trans hw157_1), ((HB.out.cell (World.block_lt_of_cell? w _ hw157_2)).trans hw157_2), ((HB.out.cell (World.block_lt_of_cell? w _ hw157_3)).trans hw157_3), ((HB.out.cell (World.block_lt_of_cell? w _ hw157_4)).trans hw157_4)⟩ (fun hHeld => ?_)
                  clear hK K
                  refine norm_ (a' := ?_) ?_ ?_
                  rotate_left
                  · show Act.put _ (some 6) _ = _
                    simp only [Act.put, List.setIfInBounds_toArray, List.set_cons_zero, List.set_cons_succ, i64_w, i32_w]
                    rfl
                  exact norm_ (by simp only [putAll, Act.put, List.setIfInBounds_toArray, List.set_cons_zero, List.set_cons_succ]) (hCont (gb158, gb159) _ ⟨hHeld, (by (with_reducible repeat (first | refine bN ?_ _ | refine bD ?_ | refine bA ?_ _)); exact BK158.out), (by (with_reducible repeat (first | refine bN ?_ _ | refine bD ?_ | refine bA ?_ _)); exact BK159.out), GW158.out, GE158.out, NB159_158.out, NB158_159.out, GW159.out, GE159.out, (by repeat (first | (with_reducible first | exact HB.out | apply below_alloc | apply wN | apply wD | refine below_set ?_ GE159.out | refine below_set ?_ GE158.out) | exact HB.out))⟩)
              rintro ⟨gb158, gb159⟩ w12 ⟨hS_, h0_, h1_, h2_, h3_, h4_, h5_, h6_, h7_, h8_⟩
              have n0_ : Aside0 (w12.heap[gb158]? = some (.cells #[.string (⟨#[]⟩ : ByteArray), .bool false, .slice none 0 0, .string (⟨#[]⟩ : ByteArray), .slice none 0 0] 74 (0, 0))) := ⟨h0_⟩
              have n1_ : Aside0 (w12.heap[gb159]? = some (.cells #[.string (⟨#[]⟩ : ByteArray), .bool false, .slice none 0 0, .string (⟨#[]⟩ : ByteArray), .slice none 0 0] 74 (0, 0))) := ⟨h1_⟩
              have n2_ : Aside0 (w.heap.size ≤ gb158) := ⟨h2_⟩
              have n3_ : Aside0 (w.heap.size ≤ gb158) := ⟨h3_⟩
              have n4_ : Aside0 (gb159 ≠ gb158) := ⟨h4_⟩
              have n5_ : Aside0 (gb158 ≠ gb159) := ⟨h5_⟩
              have n6_ : Aside0 (w.heap.size ≤ gb159) := ⟨h6_⟩
              have n7_ : Aside0 (w.heap.size ≤ gb159) := ⟨h7_⟩
              have n8_ : Aside0 (Below w.heap.size w w12) := ⟨h8_⟩
              clear HB
              clear h0_ h1_ h2_ h3_ h4_ h5_ h6_ h7_ h8_
              have BK158 := n0_
              have BK159 := n1_
              have GW158 := n2_
              have GE158 := n3_
              have NB159_158 := n4_
              have NB158_159 := n5_
              have GW159 := n6_
              have GE159 := n7_
              have HB := n8_
              clear n0_ n1_ n2_ n3_ n4_ n5_ n6_ n7_ n8_
              have hHeld : w12.cell? (ad156.add ((x5_1).toNat * 5)) = some (.string ((rd_T74 l0 x5_1).f0)) ∧ w12.cell? ⟨(ad156.add ((x5_1).toNat * 5)).block, (ad156.add ((x5_1).toNat * 5)).off + 1, none⟩ = some (.bool ((rd_T74 l0 x5_1).f1)) ∧ w12.cell? ⟨(ad156.add ((x5_1).toNat * 5)).block, (ad156.add ((x5_1).toNat * 5)).off + 2, none⟩ = some (.slice A156_2 ((rd_T74 l0 x5_1).f2).length c156_2) ∧ w12.cell? ⟨(ad156.add ((x5_1).toNat * 5)).block, (ad156.add ((x5_1).toNat * 5)).off + 3, none⟩ = some (.string ((rd_T74 l0 x5_1).f3)) ∧ w12.cell? ⟨(ad156.add ((x5_1).toNat * 5)).block, (ad156.add ((x5_1).toNat * 5)).off + 4, none⟩ = some (.slice A156_4 ((rd_T74 l0 x5_1).f4).length c156_4) ∧ w12.cell? (ad157.add ((x5_1).toNat * 5)) = some (.string ((rd_T74 l1 x5_1).f0)) ∧ w12.cell? ⟨(ad157.add ((x5_1).toNat * 5)).block, (ad157.add ((x5_1).toNat * 5)).off + 1, none⟩ = some (.bool ((rd_T74 l1 x5_1).f1)) ∧ w12.cell? ⟨(ad157.add ((x5_1).toNat * 5)).block, (ad157.add ((x5_1).toNat * 5)).off + 2, none⟩ = some (.slice A157_2 ((rd_T74 l1 x5_1).f2).length c157_2) ∧ w12.cell? ⟨(ad157.add ((x5_1).toNat * 5)).block, (ad157.add ((x5_1).toNat * 5)).off + 3, none⟩ = some (.string ((rd_T74 l1 x5_1).f3)) ∧ w12.cell? ⟨(ad157.add ((x5_1).toNat * 5)).block, (ad157.add ((x5_1).toNat * 5)).off + 4, none⟩ = some (.slice A157_4 ((rd_T74 l1 x5_1).f4).length c157_4) := hS_
              refine norm_ (a' := ?_) ?_ ?_
              rotate_left
              · simp only [putAll, Act.put, List.setIfInBounds_toArray, List.set_cons_zero, List.set_cons_succ]
                rfl
              refine one_ (i := 10) (N := none) #[true, true, true, true, true, true, true, true, true, true, true, false] rfl rfl (one_of HT_.out (by kernel_rfl)) (by decide) (fun K hK => ?_)
              have hs13 : w12.cell? ⟨gb158, 0, none⟩ = some (.string (⟨#[]⟩ : ByteArray)) := (blk_cell BK158.out 0).trans rfl
              have hfs13 := blk_frozen BK158.out 0
              have hns13_1 := NB159_158.out
              have hms13_1 := NB158_159.out
              have hs14 : w12.cell? ⟨gb158, 1, none⟩ = some (.bool false) := (blk_cell BK158.out 1).trans rfl
              have hfs14 := blk_frozen BK158.out 1
              have hns14_1 := NB159_158.out
              have hms14_1 := NB158_159.out
              have hs15 : w12.cell? ⟨gb158, 2, none⟩ = some (.slice none 0 0) := (blk_cell BK158.out 2).trans rfl
              have hfs15 := blk_frozen BK158.out 2
              have hns15_1 := NB159_158.out
              have hms15_1 := NB158_159.out
              have hs16 : w12.cell? ⟨gb158, 3, none⟩ = some (.string (⟨#[]⟩ : ByteArray)) := (blk_cell BK158.out 3).trans rfl
              have hfs16 := blk_frozen BK158.out 3
              have hns16_1 := NB159_158.out
              have hms16_1 := NB158_159.out
              have hs17 : w12.cell? ⟨gb158, 4, none⟩ = some (.slice none 0 0) := (blk_cell BK158.out 4).trans rfl
              have hfs17 := blk_frozen BK158.out 4
              have hns17_1 := NB159_158.out
              have hms17_1 := NB158_159.out
              refine skip_ (w1 := ?_) (by rfl) rfl ?_ ?_
              rotate_left
              · go_simp
                rfl
              refine hK.out _ _ ⟨((cell_far (p := ⟨gb158, _, none⟩) (fx hw156_0 GW158.out) _).trans (((cell_far (p := ⟨gb158, _, none⟩) (fx hw156_0 GW158.out) _).trans (((cell_far (p := ⟨gb158, _, none⟩) (fx hw156_0 GW158.out) _).trans (((cell_far (p := ⟨gb158, _, none⟩) (fx hw156_0 GW158.out) _).trans (((cell_far (p := ⟨gb158, _, none⟩) (fx hw156_0 GW158.out) _).trans (hHeld.1)))))))))), ((cell_far (p := ⟨gb158, _, none⟩) (fx hw156_1 GW158.out) _).trans (((cell_far (p := ⟨gb158, _, none⟩) (fx hw156_1 GW158.out) _).trans (((cell_far (p := ⟨gb158, _, none⟩) (fx hw156_1 GW158.out) _).trans (((cell_far (p := ⟨gb158, _, none⟩) (fx hw156_1 GW158.out) _).trans (((cell_far (p := ⟨gb158, _, none⟩) (fx hw156_1 GW158.out) _).trans (hHeld.2.1)))))))))), ((cell_far (p := ⟨gb158, _, none⟩) (fx hw156_2 GW158.out) _).trans (((cell_far (p := ⟨gb158, _, none⟩) (fx hw156_2 GW158.out) _).trans (((cell_far (p := ⟨gb158, _, none⟩) (fx hw156_2 GW158.out) _).trans (((cell_far (p := ⟨gb158, _, none⟩) (fx hw156_2 GW158.out) _).trans (((cell_far (p := ⟨gb158, _, none⟩) (fx hw156_2 GW158.out) _).trans (hHeld.2.2.1)))))))))), ((cell_far (p := ⟨gb158, _, none⟩) (fx hw156_3 GW158.out) _).trans (((cell_far (p := ⟨gb158, _, none⟩) (fx hw156_3 GW158.out) _).trans (((cell_far (p := ⟨gb158, _, none⟩) (fx hw156_3 GW158.out) _).trans (((cell_far (p := ⟨gb158, _, none⟩) (fx hw156_3 GW158.out) _).trans (((cell_far (p := ⟨gb158, _, none⟩) (fx hw156_3 GW158.out) _).trans (hHeld.2.2.2.1)))))))))), ((cell_far (p := ⟨gb158, _, none⟩) (fx hw156_4 GW158.out) _).trans (((cell_far (p := ⟨gb158, _, none⟩) (fx hw156_4 GW158.out) _).trans (((cell_far (p := ⟨gb158, _, none⟩) (fx hw156_4 GW158.out) _).trans (((cell_far (p := ⟨gb158, _, none⟩) (fx hw156_4 GW158.out) _).trans (((cell_far (p := ⟨gb158, _, none⟩) (fx hw156_4 GW158.out) _).trans (hHeld.2.2.2.2.1)))))))))), ((cell_far (p := ⟨gb158, _, none⟩) (fx hw157_0 GW158.out) _).trans (((cell_far (p := ⟨gb158, _, none⟩) (fx hw157_0 GW158.out) _).trans (((cell_far (p := ⟨gb158, _, none⟩) (fx hw157_0 GW158.out) _).trans (((cell_far (p := ⟨gb158, _, none⟩) (fx hw157_0 GW158.out) _).trans (((cell_far (p := ⟨gb158, _, none⟩) (fx hw157_0 GW158.out) _).trans (hHeld.2.2.2.2.2.1)))))))))), ((cell_far (p := ⟨gb158, _, none⟩) (fx hw157_1 GW158.out) _).trans (((cell_far (p := ⟨gb158, _, none⟩) (fx hw157_1 GW158.out) _).trans (((cell_far (p := ⟨gb158, _, none⟩) (fx hw157_1 GW158.out) _).trans (((cell_far (p := ⟨gb158, _, none⟩) (fx hw157_1 GW158.out) _).trans (((cell_far (p := ⟨gb158, _, none⟩) (fx hw157_1 GW158.out) _).trans (hHeld.2.2.2.2.2.2.1)))))))))), ((cell_far (p := ⟨gb158, _, none⟩) (fx hw157_2 GW158.out) _).trans (((cell_far (p := ⟨gb158, _, none⟩) (fx hw157_2 GW158.out) _).trans (((cell_far (p := ⟨gb158, _, none⟩) (fx hw157_2 GW158.out) _).trans (((cell_far (p := ⟨gb158, _, none⟩) (fx hw157_2 GW158.out) _).trans (((cell_far (p := ⟨gb158, _, none⟩) (fx hw157_2 GW158.out) _).trans (hHeld.2.2.2.2.2.2.2.1)))))))))), ((cell_far (p := ⟨gb158, _, none⟩) (fx hw157_3 GW158.out) _).trans (((cell_far (p := ⟨gb158, _, none⟩) (fx hw157_3 GW158.out) _).trans (((cell_far (p := ⟨gb158, _, none⟩) (fx hw157_3 GW158.out) _).trans (((cell_far (p := ⟨gb158, _, none⟩) (fx hw157_3 GW158.out) _).trans (((cell_far (p := ⟨gb158, _, none⟩) (fx hw157_3 GW158.out) _).trans (hHeld.2.2.2.2.2.2.2.2.1)))))))))), ((cell_far (p := ⟨gb158, _, none⟩) (fx hw157_4 GW158.out) _).trans (((cell_far (p := ⟨gb158, _, none⟩) (fx hw157_4 GW158.out) _).trans (((cell_far (p := ⟨gb158, _, none⟩) (fx hw157_4 GW158.out) _).trans (((cell_far (p := ⟨gb158, _, none⟩) (fx hw157_4 GW158.out) _).trans (((cell_far (p := ⟨gb158, _, none⟩) (fx hw157_4 GW158.out) _).trans (hHeld.2.2.2.2.2.2.2.2.2))))))))))⟩ (fun hHeld => ?_)
              clear hK K
              refine one_ (i := 11) (N := none) #[true, true, true, true, true, true, true, true, true, true, true, true] rfl rfl (one_of HT_.out (by kernel_rfl)) (by decide) (fun K hK => ?_)
              have hs18 : w12.cell? ⟨gb159, 0, none⟩ = some (.string (⟨#[]⟩ : ByteArray)) := (blk_cell BK159.out 0).trans rfl
              have hfs18 := blk_frozen BK159.out 0
              have hns18_0 := NB158_159.out
              have hms18_0 := NB159_158.out
              have hs19 : w12.cell? ⟨gb159, 1, none⟩ = some (.bool false) := (blk_cell BK159.out 1).trans rfl
              have hfs19 := blk_frozen BK159.out 1
              have hns19_0 := NB158_159.out
              have hms19_0 := NB159_158.out
              have hs20 : w12.cell? ⟨gb159, 2, none⟩ = some (.slice none 0 0) := (blk_cell BK159.out 2).trans rfl
              have hfs20 := blk_frozen BK159.out 2
              have hns20_0 := NB158_159.out
              have hms20_0 := NB159_158.out
              have hs21 : w12.cell? ⟨gb159, 3, none⟩ = some (.string (⟨#[]⟩ : ByteArray)) := (blk_cell BK159.out 3).trans rfl
              have hfs21 := blk_frozen BK159.out 3
              have hns21_0 := NB158_159.out
              have hms21_0 := NB159_158.out
              have hs22 : w12.cell? ⟨gb159, 4, none⟩ = some (.slice none 0 0) := (blk_cell BK159.out 4).trans rfl
              have hfs22 := blk_frozen BK159.out 4
              have hns22_0 := NB158_159.out
              have hms22_0 := NB159_158.out
              refine skip_ (w1 := ?_) (by rfl) rfl ?_ ?_
              rotate_left
              · go_simp
                rfl
              refine hK.out _ _ ⟨((cell_far (p := ⟨gb159, _, none⟩) (fx hw156_0 GW159.out) _).trans (((cell_far (p := ⟨gb159, _, none⟩) (fx hw156_0 GW159.out) _).trans (((cell_far (p := ⟨gb159, _, none⟩) (fx hw156_0 GW159.out) _).trans (((cell_far (p := ⟨gb159, _, none⟩) (fx hw156_0 GW159.out) _).trans (((cell_far (p := ⟨gb159, _, none⟩) (fx hw156_0 GW159.out) _).trans (hHeld.1)))))))))), ((cell_far (p := ⟨gb159, _, none⟩) (fx hw156_1 GW159.out) _).trans (((cell_far (p := ⟨gb159, _, none⟩) (fx hw156_1 GW159.out) _).trans (((cell_far (p := ⟨gb159, _, none⟩) (fx hw156_1 GW159.out) _).trans (((cell_far (p := ⟨gb159, _, none⟩) (fx hw156_1 GW159.out) _).trans (((cell_far (p := ⟨gb159, _, none⟩) (fx hw156_1 GW159.out) _).trans (hHeld.2.1)))))))))), ((cell_far (p := ⟨gb159, _, none⟩) (fx hw156_2 GW159.out) _).trans (((cell_far (p := ⟨gb159, _, none⟩) (fx hw156_2 GW159.out) _).trans (((cell_far (p := ⟨gb159, _, none⟩) (fx hw156_2 GW159.out) _).trans (((cell_far (p := ⟨gb159, _, none⟩) (fx hw156_2 GW159.out) _).trans (((cell_far (p := ⟨gb159, _, none⟩) (fx hw156_2 GW159.out) _).trans (hHeld.2.2.1)))))))))), ((cell_far (p := ⟨gb159, _, none⟩) (fx hw156_3 GW159.out) _).trans (((cell_far (p := ⟨gb159, _, none⟩) (fx hw156_3 GW159.out) _).trans (((cell_far (p := ⟨gb159, _, none⟩) (fx hw156_3 GW159.out) _).trans (((cell_far (p := ⟨gb159, _, none⟩) (fx hw156_3 GW159.out) _).trans (((cell_far (p := ⟨gb159, _, none⟩) (fx hw156_3 GW159.out) _).trans (hHeld.2.2.2.1)))))))))), ((cell_far (p := ⟨gb159, _, none⟩) (fx hw156_4 GW159.out) _).trans (((cell_far (p := ⟨gb159, _, none⟩) (fx hw156_4 GW159.out) _).trans (((cell_far (p := ⟨gb159, _, none⟩) (fx hw156_4 GW159.out) _).trans (((cell_far (p := ⟨gb159, _, none⟩) (fx hw156_4 GW159.out) _).trans (((cell_far (p := ⟨gb159, _, none⟩) (fx hw156_4 GW159.out) _).trans (hHeld.2.2.2.2.1)))))))))), ((cell_far (p := ⟨gb159, _, none⟩) (fx hw157_0 GW159.out) _).trans (((cell_far (p := ⟨gb159, _, none⟩) (fx hw157_0 GW159.out) _).trans (((cell_far (p := ⟨gb159, _, none⟩) (fx hw157_0 GW159.out) _).trans (((cell_far (p := ⟨gb159, _, none⟩) (fx hw157_0 GW159.out) _).trans (((cell_far (p := ⟨gb159, _, none⟩) (fx hw157_0 GW159.out) _).trans (hHeld.2.2.2.2.2.1)))))))))), ((cell_far (p := ⟨gb159, _, none⟩) (fx hw157_1 GW159.out) _).trans (((cell_far (p := ⟨gb159, _, none⟩) (fx hw157_1 GW159.out) _).trans (((cell_far (p := ⟨gb159, _, none⟩) (fx hw157_1 GW159.out) _).trans (((cell_far (p := ⟨gb159, _, none⟩) (fx hw157_1 GW159.out) _).trans (((cell_far (p := ⟨gb159, _, none⟩) (fx hw157_1 GW159.out) _).trans (hHeld.2.2.2.2.2.2.1)))))))))), ((cell_far (p := ⟨gb159, _, none⟩) (fx hw157_2 GW159.out) _).trans (((cell_far (p := ⟨gb159, _, none⟩) (fx hw157_2 GW159.out) _).trans (((cell_far (p := ⟨gb159, _, none⟩) (fx hw157_2 GW159.out) _).trans (((cell_far (p := ⟨gb159, _, none⟩) (fx hw157_2 GW159.out) _).trans (((cell_far (p := ⟨gb159, _, none⟩) (fx hw157_2 GW159.out) _).trans (hHeld.2.2.2.2.2.2.2.1)))))))))), ((cell_far (p := ⟨gb159, _, none⟩) (fx hw157_3 GW159.out) _).trans (((cell_far (p := ⟨gb159, _, none⟩) (fx hw157_3 GW159.out) _).trans (((cell_far (p := ⟨gb159, _, none⟩) (fx hw157_3 GW159.out) _).trans (((cell_far (p := ⟨gb159, _, none⟩) (fx hw157_3 GW159.out) _).trans (((cell_far (p := ⟨gb159, _, none⟩) (fx hw157_3 GW159.out) _).trans (hHeld.2.2.2.2.2.2.2.2.1)))))))))), ((cell_far (p := ⟨gb159, _, none⟩) (fx hw157_4 GW159.out) _).trans (((cell_far (p := ⟨gb159, _, none⟩) (fx hw157_4 GW159.out) _).trans (((cell_far (p := ⟨gb159, _, none⟩) (fx hw157_4 GW159.out) _).trans (((cell_far (p := ⟨gb159, _, none⟩) (fx hw157_4 GW159.out) _).trans (((cell_far (p := ⟨gb159, _, none⟩) (fx hw157_4 GW159.out) _).trans (hHeld.2.2.2.2.2.2.2.2.2))))))))))⟩ (fun hHeld => ?_)
              clear hK K
              refine done_ (done_of HT_.out (by kernel_rfl)) ?_
              have hnb23 := NB158_159.out
              have hnc23 := NB159_158.out
              have hcz24_0 : w12.cell? ⟨gb158, 0, none⟩ = some (.string (⟨#[]⟩ : ByteArray)) := (blk_cell BK158.out 0).trans rfl
              have hcz24_1 : w12.cell? ⟨gb158, 1, none⟩ = some (.bool false) := (blk_cell BK158.out 1).trans rfl
              have hcz24_2 : w12.cell? ⟨gb158, 2, none⟩ = some (.slice none 0 0) := (blk_cell BK158.out 2).trans rfl
              have hcz24_3 : w12.cell? ⟨gb158, 3, none⟩ = some (.string (⟨#[]⟩ : ByteArray)) := (blk_cell BK158.out 3).trans rfl
              have hcz24_4 : w12.cell? ⟨gb158, 4, none⟩ = some (.slice none 0 0) := (blk_cell BK158.out 4).trans rfl
              have hfz24_0 := blk_frozen BK158.out 0
              have hfz24_1 := blk_frozen BK158.out 1
              have hfz24_2 := blk_frozen BK158.out 2
              have hfz24_3 := blk_frozen BK158.out 3
              have hfz24_4 := blk_frozen BK158.out 4
              have hcz25_0 : w12.cell? ⟨gb159, 0, none⟩ = some (.string (⟨#[]⟩ : ByteArray)) := (blk_cell BK159.out 0).trans rfl
              have hcz25_1 : w12.cell? ⟨gb159, 1, none⟩ = some (.bool false) := (blk_cell BK159.out 1).trans rfl
              have hcz25_2 : w12.cell? ⟨gb159, 2, none⟩ = some (.slice none 0 0) := (blk_cell BK159.out 2).trans rfl
              have hcz25_3 : w12.cell? ⟨gb159, 3, none⟩ = some (.string (⟨#[]⟩ : ByteArray)) := (blk_cell BK159.out 3).trans rfl
              have hcz25_4 : w12.cell? ⟨gb159, 4, none⟩ = some (.slice none 0 0) := (blk_cell BK159.out 4).trans rfl
              have hfz25_0 := blk_frozen BK159.out 0
              have hfz25_1 := blk_frozen BK159.out 1
              have hfz25_2 := blk_frozen BK159.out 2
              have hfz25_3 := blk_frozen BK159.out 3
              have hfz25_4 := blk_frozen BK159.out 4
              have H := HX_.out
              clear HX_
              by_cases c7 : ((rd_T74 l0 x5_1).f0).toList = ((rd_T74 l1 x5_1).f0).toList
              · rw [if_pos c7] at H
                have c7b0 : (((rd_T74 l0 x5_1).f0).toList == ((rd_T74 l1 x5_1).f0).toList) = true := beq_iff_eq.mpr c7
                have c7b1 : (((rd_T74 l0 x5_1).f0).toList != ((rd_T74 l1 x5_1).f0).toList) = false := bne_eq_false_iff_eq.mpr c7
                clear c7
                by_cases c8 : (((rd_T74 l0 x5_1).f1) != ((rd_T74 l1 x5_1).f1)) = true
                · rw [if_pos c8] at H
                  have c8b0 : (((rd_T74 l0 x5_1).f1) != ((rd_T74 l1 x5_1).f1)) = true := c8
                  (try (have c8b1 : decide (((rd_T74 l0 x5_1).f1) = ((rd_T74 l1 x5_1).f1)) = false := by simpa using c8))
                  (try (have c8b2 : (((rd_T74 l0 x5_1).f1) == ((rd_T74 l1 x5_1).f1)) = false := by simpa using c8))
                  (try (have c8b3 : ¬ (((rd_T74 l0 x5_1).f1) = ((rd_T74 l1 x5_1).f1)) := by simpa using c8))
                  clear c8
                  obtain rfl := Option.some.inj H
                  try go_wp2
                  go_ret
                  exact ⟨by first | rfl | (simp [errW_none, errW_some] <;> rfl) | (simp [*, errW_none, errW_some] <;> rfl), by repeat (first | (with_reducible first | exact HB.out | apply below_alloc | apply wN | apply wD | refine below_set ?_ GE158.out | refine below_set ?_ GE159.out) | exact HB.out)⟩
                · rw [if_neg c8] at H
                  have c8b0 : (((rd_T74 l0 x5_1).f1) != ((rd_T74 l1 x5_1).f1)) = false := by simpa using c8
                  (try (have c8b1 : decide (((rd_T74 l0 x5_1).f1) = ((rd_T74 l1 x5_1).f1)) = true := by simpa using c8))
                  (try (have c8b2 : (((rd_T74 l0 x5_1).f1) == ((rd_T74 l1 x5_1).f1)) = true := by simpa using c8))
                  clear c8
                  by_cases c26 : ((rd_T74 l0 x5_1).f3).toList = ((rd_T74 l1 x5_1).f3).toList
                  · rw [if_pos c26] at H
                    have c26b0 : (((rd_T74 l0 x5_1).f3).toList == ((rd_T74 l1 x5_1).f3).toList) = true := beq_iff_eq.mpr c26
                    have c26b1 : (((rd_T74 l0 x5_1).f3).toList != ((rd_T74 l1 x5_1).f3).toList) = false := bne_eq_false_iff_eq.mpr c26
                    clear c26
                    replace H := Option.bind_eq_some_iff.mp H
                    obtain ⟨t160, A270, H⟩ := H
                    replace H : (if t160 = true then ((rS.f k1 ((rd_T74 l0 x5_1).f4) ((rd_T74 l1 x5_1).f4)).bind fun t161 => (if t161 = true then (rM.l0 k1 l0 l1 (wrap64 (x5_1 + 1))) else (some false))) else (some false)) = some r := H
                    have A27 := Aside0.mk A270
                    clear A270
                    by_cases c28 : t160 = true
                    · subst c28
                      have H1 : ((rS.f k1 ((rd_T74 l0 x5_1).f4) ((rd_T74 l1 x5_1).f4)).bind fun t161 => (if t161 = true then (rM.l0 k1 l0 l1 (wrap64 (x5_1 + 1))) else (some false))) = some r := by rw [if_pos rfl] at H; exact H
                      clear H
                      have H := H1
                      clear H1
                      replace H := Option.bind_eq_some_iff.mp H
                      obtain ⟨t161, A290, H⟩ := H
                      replace H : (if t161 = true then (rM.l0 k1 l0 l1 (wrap64 (x5_1 + 1))) else (some false)) = some r := H
                      have A29 := Aside0.mk A290
                      clear A290
                      by_cases c30 : t161 = true
                      · subst c30
                        have H1 : (rM.l0 k1 l0 l1 (wrap64 (x5_1 + 1))) = some r := by rw [if_pos rfl] at H; exact H
                        clear H
                        have H := H1
                        clear H1
                        have H' := Aside0.mk H
                        clear H
                        try go_wp2_with (first | (go_at_call 19; (with_reducible refine (rF.calls k1 _ _ ((rd_T74 l0 x5_1).f2) _ _ ((rd_T74 l1 x5_1).f2) true _ ?side1 ?side2 ?side3 ?side4 A27.out).mono ?_); (case side1 => exact Kd.C_below HR156_2.out (by repeat (first | (with_reducible first | exact HB.out | apply below_alloc | apply wN | apply wD | refine below_set ?_ GE158.out | refine below_set ?_ GE159.out) | exact HB.out))); (case side2 => exact HC156_2.out); (case side3 => exact Kd.C_below HR157_2.out (by repeat (first | (with_reducible first | exact HB.out | apply below_alloc | apply wN | apply wD | refine below_set ?_ GE158.out | refine below_set ?_ GE159.out) | exact HB.out))); (case side4 => exact HC157_2.out); rintro e w' ⟨rfl, ⟨nd, rfl⟩⟩) | (go_at_call 37; (with_reducible refine (rS.calls k1 _ _ ((rd_T74 l0 x5_1).f4) _ _ ((rd_T74 l1 x5_1).f4) true _ ?side1 ?side2 ?side3 ?side4 A29.out).mono ?_); (case side1 => exact Kd.C_below HR156_4.out (by repeat (first | (with_reducible first | exact HB.out | apply below_alloc | apply wN | apply wD | refine below_set ?_ GE158.out | refine below_set ?_ GE159.out) | exact HB.out))); (case side2 => exact HC156_4.out); (case side3 => exact Kd.C_below HR157_4.out (by repeat (first | (with_reducible first | exact HB.out | apply below_alloc | apply wN | apply wD | refine below_set ?_ GE158.out | refine below_set ?_ GE159.out) | exact HB.out))); (case side4 => exact HC157_4.out); rintro e w48 ⟨rfl, hb⟩; have n0_ := Aside0.mk (blk_below (g := gb158) (o := .cells #[.string ((rd_T74 l0 x5_1).f0), .bool ((rd_T74 l0 x5_1).f1), .slice A156_2 ((rd_T74 l0 x5_1).f2).length c156_2, .string ((rd_T74 l0 x5_1).f3), .slice A156_4 ((rd_T74 l0 x5_1).f4).length c156_4] 74 (0, 0)) (by (with_reducible repeat (first | refine bN ?_ _ | refine bD ?_ | refine bA ?_ _)); refine blk_far ?_ NB158_159.out _; (with_reducible repeat (first | refine bN ?_ _ | refine bD ?_ | refine bA ?_ _)); refine blk_far ?_ NB158_159.out _; (with_reducible repeat (first | refine bN ?_ _ | refine bD ?_ | refine bA ?_ _)); refine blk_far ?_ NB158_159.out _; (with_reducible repeat (first | refine bN ?_ _ | refine bD ?_ | refine bA ?_ _)); refine blk_far ?_ NB158_159.out _; (with_reducible repeat (first | refine bN ?_ _ | refine bD ?_ | refine bA ?_ _)); refine blk_far ?_ NB158_159.out _; (with_reducible repeat (first | refine bN ?_ _ | refine bD ?_ | refine bA ?_ _)); refine blk_put (cs := #[.string ((rd_T74 l0 x5_1).f0), .bool ((rd_T74 l0 x5_1).f1), .slice A156_2 ((rd_T74 l0 x5_1).f2).length c156_2, .string ((rd_T74 l0 x5_1).f3), .slice none 0 0]) ?_ 4 _ rfl; (with_reducible repeat (first | refine bN ?_ _ | refine bD ?_ | refine bA ?_ _)); refine blk_put (cs := #[.string ((rd_T74 l0 x5_1).f0), .bool ((rd_T74 l0 x5_1).f1), .slice A156_2 ((rd_T74 l0 x5_1).f2).length c156_2, .string (⟨#[]⟩ : ByteArray), .slice none 0 0]) ?_ 3 _ rfl; (with_reducible repeat (first | refine bN ?_ _ | refine bD ?_ | refine bA ?_ _)); refine blk_put (cs := #[.string ((rd_T74 l0 x5_1).f0), .bool ((rd_T74 l0 x5_1).f1), .slice none 0 0, .string (⟨#[]⟩ : ByteArray), .slice none 0 0]) ?_ 2 _ rfl; (with_reducible repeat (first | refine bN ?_ _ | refine bD ?_ | refine bA ?_ _)); refine blk_put (cs := #[.string ((rd_T74 l0 x5_1).f0), .bool false, .slice none 0 0, .string (⟨#[]⟩ : ByteArray), .slice none 0 0]) ?_ 1 _ rfl; (with_reducible repeat (first | refine bN ?_ _ | refine bD ?_ | refine bA ?_ _)); refine blk_put (cs := #[.string (⟨#[]⟩ : ByteArray), .bool false, .slice none 0 0, .string (⟨#[]⟩ : ByteArray), .slice none 0 0]) ?_ 0 _ rfl; (with_reducible repeat (first | refine bN ?_ _ | refine bD ?_ | refine bA ?_ _)); exact BK158.out) hb); have n1_ := Aside0.mk (blk_below (g := gb159) (o := .cells #[.string ((rd_T74 l1 x5_1).f0), .bool ((rd_T74 l1 x5_1).f1), .slice A157_2 ((rd_T74 l1 x5_1).f2).length c157_2, .string ((rd_T74 l1 x5_1).f3), .slice A157_4 ((rd_T74 l1 x5_1).f4).length c157_4] 74 (0, 0)) (by (with_reducible repeat (first | refine bN ?_ _ | refine bD ?_ | refine bA ?_ _)); refine blk_put (cs := #[.string ((rd_T74 l1 x5_1).f0), .bool ((rd_T74 l1 x5_1).f1), .slice A157_2 ((rd_T74 l1 x5_1).f2).length c157_2, .string ((rd_T74 l1 x5_1).f3), .slice none 0 0]) ?_ 4 _ rfl; (with_reducible repeat (first | refine bN ?_ _ | refine bD ?_ | refine bA ?_ _)); refine blk_put (cs := #[.string ((rd_T74 l1 x5_1).f0), .bool ((rd_T74 l1 x5_1).f1), .slice A157_2 ((rd_T74 l1 x5_1).f2).length c157_2, .string (⟨#[]⟩ : ByteArray), .slice none 0 0]) ?_ 3 _ rfl; (with_reducible repeat (first | refine bN ?_ _ | refine bD ?_ | refine bA ?_ _)); refine blk_put (cs := #[.string ((rd_T74 l1 x5_1).f0), .bool ((rd_T74 l1 x5_1).f1), .slice none 0 0, .string (⟨#[]⟩ : ByteArray), .slice none 0 0]) ?_ 2 _ rfl; (with_reducible repeat (first | refine bN ?_ _ | refine bD ?_ | refine bA ?_ _)); refine blk_put (cs := #[.string ((rd_T74 l1 x5_1).f0), .bool false, .slice none 0 0, .string (⟨#[]⟩ : ByteArray), .slice none 0 0]) ?_ 1 _ rfl; (with_reducible repeat (first | refine bN ?_ _ | refine bD ?_ | refine bA ?_ _)); refine blk_put (cs := #[.string (⟨#[]⟩ : ByteArray), .bool false, .slice none 0 0, .string (⟨#[]⟩ : ByteArray), .slice none 0 0]) ?_ 0 _ rfl; (with_reducible repeat (first | refine bN ?_ _ | refine bD ?_ | refine bA ?_ _)); refine blk_far ?_ NB159_158.out _; (with_reducible repeat (first | refine bN ?_ _ | refine bD ?_ | refine bA ?_ _)); refine blk_far ?_ NB159_158.out _; (with_reducible repeat (first | refine bN ?_ _ | refine bD ?_ | refine bA ?_ _)); refine blk_far ?_ NB159_158.out _; (with_reducible repeat (first | refine bN ?_ _ | refine bD ?_ | refine bA ?_ _)); refine blk_far ?_ NB159_158.out _; (with_reducible repeat (first | refine bN ?_ _ | refine bD ?_ | refine bA ?_ _)); refine blk_far ?_ NB159_158.out _; (with_reducible repeat (first | refine bN ?_ _ | refine bD ?_ | refine bA ?_ _)); exact BK159.out) hb); have n2_ := Aside0.mk (below_step (by repeat (first | (with_reducible first | exact HB.out | apply below_alloc | apply wN | apply wD | refine below_set ?_ GE158.out | refine below_set ?_ GE159.out) | exact HB.out)) hb); clear BK158; clear BK159; clear HB; have BK158 := n0_; have BK159 := n1_; have HB := n2_; clear n0_ n1_ n2_; (try clear hb); (try clear hb2); (try clear hk); (try clear hi)))
                        go_roundg k1
                        case measure => have := HK1.out; omega
                        case rel => exact ⟨(wrap64 (x5_1 + 1)), (by first | rfl | (simp; done) | (simp [*]; done)), H', ⟨by have := HK1.out; omega⟩, ⟨by repeat (first | (with_reducible first | exact HB.out | apply below_alloc | apply wN | apply wD | refine below_set ?_ GE158.out | refine below_set ?_ GE159.out) | exact HB.out)⟩⟩
                      · replace c30 := Bool.eq_false_iff.mpr c30
                        subst c30
                        have H1 : (some false) = some r := by rw [if_neg (show ¬ (false = true) by decide)] at H; exact H
                        clear H
                        have H := H1
                        clear H1
                        obtain rfl := Option.some.inj H
                        try go_wp2_with (first | (go_at_call 19; (with_reducible refine (rF.calls k1 _ _ ((rd_T74 l0 x5_1).f2) _ _ ((rd_T74 l1 x5_1).f2) true _ ?side1 ?side2 ?side3 ?side4 A27.out).mono ?_); (case side1 => exact Kd.C_below HR156_2.out (by repeat (first | (with_reducible first | exact HB.out | apply below_alloc | apply wN | apply wD | refine below_set ?_ GE158.out | refine below_set ?_ GE159.out) | exact HB.out))); (case side2 => exact HC156_2.out); (case side3 => exact Kd.C_below HR157_2.out (by repeat (first | (with_reducible first | exact HB.out | apply below_alloc | apply wN | apply wD | refine below_set ?_ GE158.out | refine below_set ?_ GE159.out) | exact HB.out))); (case side4 => exact HC157_2.out); rintro e w' ⟨rfl, ⟨nd, rfl⟩⟩) | (go_at_call 37; (with_reducible refine (rS.calls k1 _ _ ((rd_T74 l0 x5_1).f4) _ _ ((rd_T74 l1 x5_1).f4) false _ ?side1 ?side2 ?side3 ?side4 A29.out).mono ?_); (case side1 => exact Kd.C_below HR156_4.out (by repeat (first | (with_reducible first | exact HB.out | apply below_alloc | apply wN | apply wD | refine below_set ?_ GE158.out | refine below_set ?_ GE159.out) | exact HB.out))); (case side2 => exact HC156_4.out); (case side3 => exact Kd.C_below HR157_4.out (by repeat (first | (with_reducible first | exact HB.out | apply below_alloc | apply wN | apply wD | refine below_set ?_ GE158.out | refine below_set ?_ GE159.out) | exact HB.out))); (case side4 => exact HC157_4.out); rintro e w66 ⟨rfl, hb⟩; have n0_ := Aside0.mk (blk_below (g := gb158) (o := .cells #[.string ((rd_T74 l0 x5_1).f0), .bool ((rd_T74 l0 x5_1).f1), .slice A156_2 ((rd_T74 l0 x5_1).f2).length c156_2, .string ((rd_T74 l0 x5_1).f3), .slice A156_4 ((rd_T74 l0 x5_1).f4).length c156_4] 74 (0, 0)) (by (with_reducible repeat (first | refine bN ?_ _ | refine bD ?_ | refine bA ?_ _)); refine blk_far ?_ NB158_159.out _; (with_reducible repeat (first | refine bN ?_ _ | refine bD ?_ | refine bA ?_ _)); refine blk_far ?_ NB158_159.out _; (with_reducible repeat (first | refine bN ?_ _ | refine bD ?_ | refine bA ?_ _)); refine blk_far ?_ NB158_159.out _; (with_reducible repeat (first | refine bN ?_ _ | refine bD ?_ | refine bA ?_ _)); refine blk_far ?_ NB158_159.out _; (with_reducible repeat (first | refine bN ?_ _ | refine bD ?_ | refine bA ?_ _)); refine blk_far ?_ NB158_159.out _; (with_reducible repeat (first | refine bN ?_ _ | refine bD ?_ | refine bA ?_ _)); refine blk_put (cs := #[.string ((rd_T74 l0 x5_1).f0), .bool ((rd_T74 l0 x5_1).f1), .slice A156_2 ((rd_T74 l0 x5_1).f2).length c156_2, .string ((rd_T74 l0 x5_1).f3), .slice none 0 0]) ?_ 4 _ rfl; (with_reducible repeat (first | refine bN ?_ _ | refine bD ?_ | refine bA ?_ _)); refine blk_put (cs := #[.string ((rd_T74 l0 x5_1).f0), .bool ((rd_T74 l0 x5_1).f1), .slice A156_2 ((rd_T74 l0 x5_1).f2).length c156_2, .string (⟨#[]⟩ : ByteArray), .slice none 0 0]) ?_ 3 _ rfl; (with_reducible repeat (first | refine bN ?_ _ | refine bD ?_ | refine bA ?_ _)); refine blk_put (cs := #[.string ((rd_T74 l0 x5_1).f0), .bool ((rd_T74 l0 x5_1).f1), .slice none 0 0, .string (⟨#[]⟩ : ByteArray), .slice none 0 0]) ?_ 2 _ rfl; (with_reducible repeat (first | refine bN ?_ _ | refine bD ?_ | refine bA ?_ _)); refine blk_put (cs := #[.string ((rd_T74 l0 x5_1).f0), .bool false, .slice none 0 0, .string (⟨#[]⟩ : ByteArray), .slice none 0 0]) ?_ 1 _ rfl; (with_reducible repeat (first | refine bN ?_ _ | refine bD ?_ | refine bA ?_ _)); refine blk_put (cs := #[.string (⟨#[]⟩ : ByteArray), .bool false, .slice none 0 0, .string (⟨#[]⟩ : ByteArray), .slice none 0 0]) ?_ 0 _ rfl; (with_reducible repeat (first | refine bN ?_ _ | refine bD ?_ | refine bA ?_ _)); exact BK158.out) hb); have n1_ := Aside0.mk (blk_below (g := gb159) (o := .cells #[.string ((rd_T74 l1 x5_1).f0), .bool ((rd_T74 l1 x5_1).f1), .slice A157_2 ((rd_T74 l1 x5_1).f2).length c157_2, .string ((rd_T74 l1 x5_1).f3), .slice A157_4 ((rd_T74 l1 x5_1).f4).length c157_4] 74 (0, 0)) (by (with_reducible repeat (first | refine bN ?_ _ | refine bD ?_ | refine bA ?_ _)); refine blk_put (cs := #[.string ((rd_T74 l1 x5_1).f0), .bool ((rd_T74 l1 x5_1).f1), .slice A157_2 ((rd_T74 l1 x5_1).f2).length c157_2, .string ((rd_T74 l1 x5_1).f3), .slice none 0 0]) ?_ 4 _ rfl; (with_reducible repeat (first | refine bN ?_ _ | refine bD ?_ | refine bA ?_ _)); refine blk_put (cs := #[.string ((rd_T74 l1 x5_1).f0), .bool ((rd_T74 l1 x5_1).f1), .slice A157_2 ((rd_T74 l1 x5_1).f2).length c157_2, .string (⟨#[]⟩ : ByteArray), .slice none 0 0]) ?_ 3 _ rfl; (with_reducible repeat (first | refine bN ?_ _ | refine bD ?_ | refine bA ?_ _)); refine blk_put (cs := #[.string ((rd_T74 l1 x5_1).f0), .bool ((rd_T74 l1 x5_1).f1), .slice none 0 0, .string (⟨#[]⟩ : ByteArray), .slice none 0 0]) ?_ 2 _ rfl; (with_reducible repeat (first | refine bN ?_ _ | refine bD ?_ | refine bA ?_ _)); refine blk_put (cs := #[.string ((rd_T74 l1 x5_1).f0), .bool false, .slice none 0 0, .string (⟨#[]⟩ : ByteArray), .slice none 0 0]) ?_ 1 _ rfl; (with_reducible repeat (first | refine bN ?_ _ | refine bD ?_ | refine bA ?_ _)); refine blk_put (cs := #[.string (⟨#[]⟩ : ByteArray), .bool false, .slice none 0 0, .string (⟨#[]⟩ : ByteArray), .slice none 0 0]) ?_ 0 _ rfl; (with_reducible repeat (first | refine bN ?_ _ | refine bD ?_ | refine bA ?_ _)); refine blk_far ?_ NB159_158.out _; (with_reducible repeat (first | refine bN ?_ _ | refine bD ?_ | refine bA ?_ _)); refine blk_far ?_ NB159_158.out _; (with_reducible repeat (first | refine bN ?_ _ | refine bD ?_ | refine bA ?_ _)); refine blk_far ?_ NB159_158.out _; (with_reducible repeat (first | refine bN ?_ _ | refine bD ?_ | refine bA ?_ _)); refine blk_far ?_ NB159_158.out _; (with_reducible repeat (first | refine bN ?_ _ | refine bD ?_ | refine bA ?_ _)); refine blk_far ?_ NB159_158.out _; (with_reducible repeat (first | refine bN ?_ _ | refine bD ?_ | refine bA ?_ _)); exact BK159.out) hb); have n2_ := Aside0.mk (below_step (by repeat (first | (with_reducible first | exact HB.out | apply below_alloc | apply wN | apply wD | refine below_set ?_ GE158.out | refine below_set ?_ GE159.out) | exact HB.out)) hb); clear BK158; clear BK159; clear HB; have BK158 := n0_; have BK159 := n1_; have HB := n2_; clear n0_ n1_ n2_; (try clear hb); (try clear hb2); (try clear hk); (try clear hi)))
                        go_ret
                        exact ⟨by first | rfl | (simp [errW_none, errW_some] <;> rfl) | (simp [*, errW_none, errW_some] <;> rfl), by repeat (first | (with_reducible first | exact HB.out | apply below_alloc | apply wN | apply wD | refine below_set ?_ GE158.out | refine below_set ?_ GE159.out) | exact HB.out)⟩
                    · replace c28 := Bool.eq_false_iff.mpr c28
                      subst c28
                      have H1 : (some false) = some r := by rw [if_neg (show ¬ (false = true) by decide)] at H; exact H
                      clear H
                      have H := H1
                      clear H1
                      obtain rfl := Option.some.inj H
                      try go_wp2_with (first | (go_at_call 19; (with_reducible refine (rF.calls k1 _ _ ((rd_T74 l0 x5_1).f2) _ _ ((rd_T74 l1 x5_1).f2) false _ ?side1 ?side2 ?side3 ?side4 A27.out).mono ?_); (case side1 => exact Kd.C_below HR156_2.out (by repeat (first | (with_reducible first | exact HB.out | apply below_alloc | apply wN | apply wD | refine below_set ?_ GE158.out | refine below_set ?_ GE159.out) | exact HB.out))); (case side2 => exact HC156_2.out); (case side3 => exact Kd.C_below HR157_2.out (by repeat (first | (with_reducible first | exact HB.out | apply below_alloc | apply wN | apply wD | refine below_set ?_ GE158.out | refine below_set ?_ GE159.out) | exact HB.out))); (case side4 => exact HC157_2.out); rintro e w' ⟨rfl, ⟨nd, rfl⟩⟩))
                      go_ret
                      exact ⟨by first | rfl | (simp [errW_none, errW_some] <;> rfl) | (simp [*, errW_none, errW_some] <;> rfl), by repeat (first | (with_reducible first | exact HB.out | apply below_alloc | apply wN | apply wD | refine below_set ?_ GE158.out | refine below_set ?_ GE159.out) | exact HB.out)⟩
                  · rw [if_neg c26] at H
                    have c26b0 : (((rd_T74 l0 x5_1).f3).toList == ((rd_T74 l1 x5_1).f3).toList) = false := beq_eq_false_iff_ne.mpr c26
                    have c26b1 : (((rd_T74 l0 x5_1).f3).toList != ((rd_T74 l1 x5_1).f3).toList) = true := bne_iff_ne.mpr c26
                    obtain rfl := Option.some.inj H
                    try go_wp2
                    go_ret
                    exact ⟨by first | rfl | (simp [errW_none, errW_some] <;> rfl) | (simp [*, errW_none, errW_some] <;> rfl), by repeat (first | (with_reducible first | exact HB.out | apply below_alloc | apply wN | apply wD | refine below_set ?_ GE158.out | refine below_set ?_ GE159.out) | exact HB.out)⟩
              · rw [if_neg c7] at H
                have c7b0 : (((rd_T74 l0 x5_1).f0).toList == ((rd_T74 l1 x5_1).f0).toList) = false := beq_eq_false_iff_ne.mpr c7
                have c7b1 : (((rd_T74 l0 x5_1).f0).toList != ((rd_T74 l1 x5_1).f0).toList) = true := bne_iff_ne.mpr c7
                obtain rfl := Option.some.inj H
                try go_wp2
                go_ret
                exact ⟨by first | rfl | (simp [errW_none, errW_some] <;> rfl) | (simp [*, errW_none, errW_some] <;> rfl), by repeat (first | (with_reducible first | exact HB.out | apply below_alloc | apply wN | apply wD | refine below_set ?_ GE158.out | refine below_set ?_ GE159.out) | exact HB.out)⟩
            · rw [if_neg c6] at H
              exact absurd H (by simp)
          · rw [if_neg c5] at H
            exact absurd H (by simp)
        · rw [if_neg c4] at H
          have c4b0 : decide (x5_1 < (l0.length : Int)) = false := decide_eq_false c4
          clear c4
          obtain rfl := Option.some.inj H
          go_wp2
          go_ret
          exact ⟨by first | rfl | (simp [errW_none, errW_some] <;> rfl) | (simp [*, errW_none, errW_some] <;> rfl), by repeat (first | (with_reducible first | exact HB.out | apply below_alloc | apply wN | apply wD) | exact HB.out)⟩
  · rw [if_neg c3] at H
    have c3b0 : ((l0.length : Int) == (l1.length : Int)) = false := beq_eq_false_iff_ne.mpr c3
    have c3b1 : ((l0.length : Int) != (l1.length : Int)) = true := bne_iff_ne.mpr c3
    have c3b2 : (l0.length == l1.length) = false := by first | simpa using c3 | (simp at c3 ⊢; omega)
    obtain rfl := Option.some.inj H
    go_enter Tryd.func20, Tryd.ntmps20
    go_wp2
    go_ret
    exact ⟨by first | rfl | (simp [errW_none, errW_some] <;> rfl) | (simp [*, errW_none, errW_some] <;> rfl), by repeat (first | (with_reducible first | exact HB.out | apply below_alloc | apply wN | apply wD) | exact HB.out)⟩
end Go.Proofs.YtiffnkmbmenhfaaDoor.Cx
