import Derived.Test.YtmocdgcjglmmjaaGreatDoorX0
import Derived.Deep.RegionLaw
import Derived.Laws.CopyOwn
/-! The last elements of a context as an array. -/
namespace Go.Proofs.YtmocdgcjglmmjaaGreatDoor.Cx
open Go.RowKit Go.Proofs.YtmocdgcjglmmjaaGreatDoorW.PrintWords Go.Proofs.YtmocdgcjglmmjaaGreatDoorW.PrintLast Go.Proofs.YtmocdgcjglmmjaaGreatDoorW.PrintMore
attribute [local go_sem] max2_int min2_int max_two min_two max_three min_three max_four min_four   -- for this text's walks alone
set_option linter.unusedVariables false
set_option linter.unusedSimpArgs false

theorem cells_two {w : World} {b : Nat} {t : TypeId} {u v x y : Value} (h : w.heap[b]? = some (.cells #[u, v] t (0, 0))) : ((w.setCell ⟨b, 0, none⟩ x).setCell ⟨b, 1, none⟩ y).heap[b]? = some (.cells #[x, y] t (0, 0)) := by
  simp only [World.setCell, Array.getElem?_modify, if_true, h, Option.map_some]
  rfl
theorem two_new1 (w : World) (o1 o2 : Obj) : ((w.alloc o1).alloc o2).drew.heap[w.heap.size + 1]? = some o2 := by
  show ((w.heap.push o1).push o2)[w.heap.size + 1]? = _
  rw [Array.getElem?_push, if_pos (by simp)]
theorem two_new0 (w : World) (o1 o2 : Obj) : ((w.alloc o1).alloc o2).drew.heap[w.heap.size]? = some o1 := by
  show ((w.heap.push o1).push o2)[w.heap.size]? = _
  rw [Array.getElem?_push, if_neg (by simp), Array.getElem?_push, if_pos rfl]

def packed0 (l : List Int) : List Value := splice [.int .i64 0, .int .i64 0] 2 ((l.drop (l.length - 0)).map (Value.int .i64))
set_option maxHeartbeats 8000000 in
set_option maxRecDepth 100000 in
theorem context_pack.calls0 (A : Option Addr) (c : Nat) (l : List Int) (w : World) (hr : Kd.C (Kd.int .i64) w A l.length l) (hc : l.length ≤ c) (hnl : 0 ≤ l.length) (hl : l.length ≤ 1000) :
    Calls Tryz.prog 31 #[.slice A l.length c, .int .i64 0] w fun e w' => e = .returned (.agg (packed0 l).toArray) ∧ Below w.heap.size w w' := by
  obtain ⟨ji, hji⟩ : ∃ j_ : Int, (wrap64 ((l.length : Int) - 0)) = j_ := ⟨_, rfl⟩
  have hjin : ji = ((l.length - 0 : Nat) : Int) := by rw [← hji]; unfold wrap64; omega
  have hjiw : (IntKind.i64.wrap ((l.length : Int))) = ji := by rw [show ((l.length : Int) : Int) = (l.length : Int) - 0 by omega]; exact (i64_w _).trans hji
  have hwm : IntKind.i64.wrap 2 = 2 := by decide
  have hj0 : 0 ≤ ji := by omega
  have hj1 : ji ≤ (l.length : Int) := by omega
  obtain ⟨i09, hi09, hz9, hsz9, hb9⟩ := info_parts info3
  obtain ⟨A9, hcut9, hA9, hC9⟩ := print_drop_of (P := Tryz.prog) (Value.int .i64) 0 30 3 .i64 Tryz.underlying30 hi09 hsz9 A c l ji hj0 hj1 hc
  have hj2 : ji.toNat = l.length - 0 := by rw [hjin]; simp
  have hX0 := hA9 w (Kd.reads_of_C hr)
  clear hA9 hC9 hi09 hsz9 hz9 hb9
  obtain ⟨ys, hys⟩ : ∃ ys : List Int, ys = l.drop ji.toNat := ⟨_, rfl⟩
  have hyl : ys.length = 0 := by rw [hys, List.length_drop, hj2]; omega
  have HM := Aside0.mk (show 0 = Nat.min (l.length - ji.toNat) 0 by rw [hj2]; show _ = min _ _; omega)
  have HP : Aside0 (0 < ys.length → ∃ ad, A9 = some ad ∧ ∀ (j : Nat) v, (ys.map (Value.int .i64))[j]? = some v → ((w.alloc (.cells #[.int .i64 0, .int .i64 0] 67)).alloc (.cells #[.int .i64 0, .int .i64 0] 67)).drew.cell? (ad.add j) = some v) := by
    refine ⟨fun hpos => ?_⟩
    have hb : Below w.heap.size w ((w.alloc (.cells #[.int .i64 0, .int .i64 0] 67)).alloc (.cells #[.int .i64 0, .int .i64 0] 67)).drew := (((Below.refl _ _).alloc (Nat.le_refl _) _).alloc (by simp) _).drew
    obtain ⟨ad, e, hc'⟩ := (hX0.below hb).2.2 (by rw [← hys]; exact hpos)
    refine ⟨ad, e, fun j v hv => ?_⟩
    rw [List.getElem?_map] at hv
    obtain ⟨y, hy, rfl⟩ := Option.map_eq_some_iff.1 hv
    have hjl := (List.getElem?_eq_some_iff.1 hy).1
    have := hc' j (by rw [← hys]; exact hjl)
    rw [this, ← hys, List.getD_eq_getElem?_getD, hy]
    rfl
  have HY := Aside0.mk (show ys = l.drop (l.length - 0) by rw [hys, hj2])
  clear hX0 hys hjin hj2 hji hr hc
  obtain rfl := List.eq_nil_of_length_eq_zero hyl
  clear hyl
  go_enter Tryz.func31, Tryz.ntmps31
  go_wp2
  go_region_law (refine step_copy_splice rfl (.tmp 8) (.tmp 14) 30 30 rfl 3 Tryz.underlying30 (by kernel_rfl) (some ⟨w.heap.size + 1, 0, none⟩) A9 0 0 (l.length - ji.toNat) (c - ji.toNat) (by simp [Act.eval, Act.put]) (by simp [Act.eval, Act.put]) (w.heap.size + 1) 2 [.int .i64 0, .int .i64 0] 67 (two_new1 w _ _) [] HM.out (by simp) (by simp) (by simp) (w.heap.size + 1) _ (Below.refl _ _) (Nat.le_refl _) ?_; intro w4 hg4 hb4)
  have hB1 : w4.heap[w.heap.size]? = some (.cells #[.int .i64 0, .int .i64 0] 67 (0, 0)) := (hb4.block _ (Nat.lt_succ_self _)).trans (two_new0 w _ _)
  have hB2 : w4.heap[w.heap.size + 1]? = some (.cells #[.int .i64 0, .int .i64 0] 67 (0, 0)) := hg4
  have c0 : w4.cell? ⟨w.heap.size + 1, 0, none⟩ = some (.int .i64 0) := by simp [World.cell?, hB2]
  have c1 : w4.cell? ⟨w.heap.size + 1, 1, none⟩ = some (.int .i64 0) := by simp [World.cell?, hB2]
  have d0 : w4.cell? ⟨w.heap.size, 0, none⟩ = some (.int .i64 0) := by simp [World.cell?, hB1]
  have d1 : w4.cell? ⟨w.heap.size, 1, none⟩ = some (.int .i64 0) := by simp [World.cell?, hB1]
  have f0 : w4.frozen? ⟨w.heap.size, 0, none⟩ = false := by simp [World.frozen?, hB1]
  have f1 : w4.frozen? ⟨w.heap.size, 1, none⟩ = false := by simp [World.frozen?, hB1]
  have hbw : Below w.heap.size w w4 := ((((Below.refl _ _).alloc (Nat.le_refl _) _).alloc (by simp) _).drew).trans (hb4.mono (Nat.le_succ _))
  go_wp2
  refine bodyPost_ret (results_cell_row rfl _ _ w.heap.size 67 #[.int .i64 0, .int .i64 0] (0, 0) (.array 2 3) rfl (cells_two hB1) (by kernel_rfl) rfl (by kernel_rfl)) rfl ?_
  refine ⟨?_, (hbw.setCell (Nat.le_refl _) _).setCell (Nat.le_refl _) _⟩
  unfold packed0
  rw [← HY.out]
  rfl

def packed1 (l : List Int) : List Value := splice [.int .i64 0, .int .i64 0] 1 ((l.drop (l.length - 1)).map (Value.int .i64))
set_option maxHeartbeats 8000000 in
set_option maxRecDepth 100000 in
theorem context_pack.calls1 (A : Option Addr) (c : Nat) (l : List Int) (w : World) (hr : Kd.C (Kd.int .i64) w A l.length l) (hc : l.length ≤ c) (hnl : 1 ≤ l.length) (hl : l.length ≤ 1000) :
    Calls Tryz.prog 31 #[.slice A l.length c, .int .i64 1] w fun e w' => e = .returned (.agg (packed1 l).toArray) ∧ Below w.heap.size w w' := by
  obtain ⟨ji, hji⟩ : ∃ j_ : Int, (wrap64 ((l.length : Int) - 1)) = j_ := ⟨_, rfl⟩
  have hjin : ji = ((l.length - 1 : Nat) : Int) := by rw [← hji]; unfold wrap64; omega
  have hjiw : (IntKind.i64.wrap ((l.length : Int) - 1)) = ji := by rw [show ((l.length : Int) - 1 : Int) = (l.length : Int) - 1 by omega]; exact (i64_w _).trans hji
  have hwm : IntKind.i64.wrap 1 = 1 := by decide
  have hj0 : 0 ≤ ji := by omega
  have hj1 : ji ≤ (l.length : Int) := by omega
  obtain ⟨i09, hi09, hz9, hsz9, hb9⟩ := info_parts info3
  obtain ⟨A9, hcut9, hA9, hC9⟩ := print_drop_of (P := Tryz.prog) (Value.int .i64) 0 30 3 .i64 Tryz.underlying30 hi09 hsz9 A c l ji hj0 hj1 hc
  have hj2 : ji.toNat = l.length - 1 := by rw [hjin]; simp
  have hX0 := hA9 w (Kd.reads_of_C hr)
  clear hA9 hC9 hi09 hsz9 hz9 hb9
  obtain ⟨ys, hys⟩ : ∃ ys : List Int, ys = l.drop ji.toNat := ⟨_, rfl⟩
  have hyl : ys.length = 1 := by rw [hys, List.length_drop, hj2]; omega
  have HM := Aside0.mk (show 1 = Nat.min (l.length - ji.toNat) 1 by rw [hj2]; show _ = min _ _; omega)
  have HP : Aside0 (0 < ys.length → ∃ ad, A9 = some ad ∧ ∀ (j : Nat) v, (ys.map (Value.int .i64))[j]? = some v → ((w.alloc (.cells #[.int .i64 0, .int .i64 0] 67)).alloc (.cells #[.int .i64 0, .int .i64 0] 67)).drew.cell? (ad.add j) = some v) := by
    refine ⟨fun hpos => ?_⟩
    have hb : Below w.heap.size w ((w.alloc (.cells #[.int .i64 0, .int .i64 0] 67)).alloc (.cells #[.int .i64 0, .int .i64 0] 67)).drew := (((Below.refl _ _).alloc (Nat.le_refl _) _).alloc (by simp) _).drew
    obtain ⟨ad, e, hc'⟩ := (hX0.below hb).2.2 (by rw [← hys]; exact hpos)
    refine ⟨ad, e, fun j v hv => ?_⟩
    rw [List.getElem?_map] at hv
    obtain ⟨y, hy, rfl⟩ := Option.map_eq_some_iff.1 hv
    have hjl := (List.getElem?_eq_some_iff.1 hy).1
    have := hc' j (by rw [← hys]; exact hjl)
    rw [this, ← hys, List.getD_eq_getElem?_getD, hy]
    rfl
  have HY := Aside0.mk (show ys = l.drop (l.length - 1) by rw [hys, hj2])
  clear hX0 hys hjin hj2 hji hr hc
  obtain ⟨x1, rfl⟩ := List.length_eq_one_iff.1 hyl
  clear hyl
  go_enter Tryz.func31, Tryz.ntmps31
  go_wp2
  go_region_law (refine step_copy_splice rfl (.tmp 8) (.tmp 14) 30 30 rfl 3 Tryz.underlying30 (by kernel_rfl) (some ⟨w.heap.size + 1, 1, none⟩) A9 1 1 (l.length - ji.toNat) (c - ji.toNat) (by simp [Act.eval, Act.put]) (by simp [Act.eval, Act.put]) (w.heap.size + 1) 1 [.int .i64 0, .int .i64 0] 67 (two_new1 w _ _) [.int .i64 x1] HM.out (fun _ => ⟨rfl, HP.out (by simp)⟩) (by simp) (by simp [Value.oneCell']) (w.heap.size + 1) _ (Below.refl _ _) (Nat.le_refl _) ?_; intro w4 hg4 hb4)
  have hB1 : w4.heap[w.heap.size]? = some (.cells #[.int .i64 0, .int .i64 0] 67 (0, 0)) := (hb4.block _ (Nat.lt_succ_self _)).trans (two_new0 w _ _)
  have hB2 : w4.heap[w.heap.size + 1]? = some (.cells #[.int .i64 0, .int .i64 x1] 67 (0, 0)) := hg4
  have c0 : w4.cell? ⟨w.heap.size + 1, 0, none⟩ = some (.int .i64 0) := by simp [World.cell?, hB2]
  have c1 : w4.cell? ⟨w.heap.size + 1, 1, none⟩ = some (.int .i64 x1) := by simp [World.cell?, hB2]
  have d0 : w4.cell? ⟨w.heap.size, 0, none⟩ = some (.int .i64 0) := by simp [World.cell?, hB1]
  have d1 : w4.cell? ⟨w.heap.size, 1, none⟩ = some (.int .i64 0) := by simp [World.cell?, hB1]
  have f0 : w4.frozen? ⟨w.heap.size, 0, none⟩ = false := by simp [World.frozen?, hB1]
  have f1 : w4.frozen? ⟨w.heap.size, 1, none⟩ = false := by simp [World.frozen?, hB1]
  have hbw : Below w.heap.size w w4 := ((((Below.refl _ _).alloc (Nat.le_refl _) _).alloc (by simp) _).drew).trans (hb4.mono (Nat.le_succ _))
  go_wp2
  refine bodyPost_ret (results_cell_row rfl _ _ w.heap.size 67 #[.int .i64 0, .int .i64 x1] (0, 0) (.array 2 3) rfl (cells_two hB1) (by kernel_rfl) rfl (by kernel_rfl)) rfl ?_
  refine ⟨?_, (hbw.setCell (Nat.le_refl _) _).setCell (Nat.le_refl _) _⟩
  unfold packed1
  rw [← HY.out]
  rfl

def packed2 (l : List Int) : List Value := splice [.int .i64 0, .int .i64 0] 0 ((l.drop (l.length - 2)).map (Value.int .i64))
set_option maxHeartbeats 8000000 in
set_option maxRecDepth 100000 in
theorem context_pack.calls2 (A : Option Addr) (c : Nat) (l : List Int) (w : World) (hr : Kd.C (Kd.int .i64) w A l.length l) (hc : l.length ≤ c) (hnl : 2 ≤ l.length) (hl : l.length ≤ 1000) :
    Calls Tryz.prog 31 #[.slice A l.length c, .int .i64 2] w fun e w' => e = .returned (.agg (packed2 l).toArray) ∧ Below w.heap.size w w' := by
  obtain ⟨ji, hji⟩ : ∃ j_ : Int, (wrap64 ((l.length : Int) - 2)) = j_ := ⟨_, rfl⟩
  have hjin : ji = ((l.length - 2 : Nat) : Int) := by rw [← hji]; unfold wrap64; omega
  have hjiw : (IntKind.i64.wrap ((l.length : Int) - 2)) = ji := by rw [show ((l.length : Int) - 2 : Int) = (l.length : Int) - 2 by omega]; exact (i64_w _).trans hji
  have hwm : IntKind.i64.wrap 0 = 0 := by decide
  have hj0 : 0 ≤ ji := by omega
  have hj1 : ji ≤ (l.length : Int) := by omega
  obtain ⟨i09, hi09, hz9, hsz9, hb9⟩ := info_parts info3
  obtain ⟨A9, hcut9, hA9, hC9⟩ := print_drop_of (P := Tryz.prog) (Value.int .i64) 0 30 3 .i64 Tryz.underlying30 hi09 hsz9 A c l ji hj0 hj1 hc
  have hj2 : ji.toNat = l.length - 2 := by rw [hjin]; simp
  have hX0 := hA9 w (Kd.reads_of_C hr)
  clear hA9 hC9 hi09 hsz9 hz9 hb9
  obtain ⟨ys, hys⟩ : ∃ ys : List Int, ys = l.drop ji.toNat := ⟨_, rfl⟩
  have hyl : ys.length = 2 := by rw [hys, List.length_drop, hj2]; omega
  have HM := Aside0.mk (show 2 = Nat.min (l.length - ji.toNat) 2 by rw [hj2]; show _ = min _ _; omega)
  have HP : Aside0 (0 < ys.length → ∃ ad, A9 = some ad ∧ ∀ (j : Nat) v, (ys.map (Value.int .i64))[j]? = some v → ((w.alloc (.cells #[.int .i64 0, .int .i64 0] 67)).alloc (.cells #[.int .i64 0, .int .i64 0] 67)).drew.cell? (ad.add j) = some v) := by
    refine ⟨fun hpos => ?_⟩
    have hb : Below w.heap.size w ((w.alloc (.cells #[.int .i64 0, .int .i64 0] 67)).alloc (.cells #[.int .i64 0, .int .i64 0] 67)).drew := (((Below.refl _ _).alloc (Nat.le_refl _) _).alloc (by simp) _).drew
    obtain ⟨ad, e, hc'⟩ := (hX0.below hb).2.2 (by rw [← hys]; exact hpos)
    refine ⟨ad, e, fun j v hv => ?_⟩
    rw [List.getElem?_map] at hv
    obtain ⟨y, hy, rfl⟩ := Option.map_eq_some_iff.1 hv
    have hjl := (List.getElem?_eq_some_iff.1 hy).1
    have := hc' j (by rw [← hys]; exact hjl)
    rw [this, ← hys, List.getD_eq_getElem?_getD, hy]
    rfl
  have HY := Aside0.mk (show ys = l.drop (l.length - 2) by rw [hys, hj2])
  clear hX0 hys hjin hj2 hji hr hc
  obtain ⟨x1, x2, rfl⟩ := (show ∃ a b, ys = [a, b] from match ys, hyl with | [a, b], _ => ⟨a, b, rfl⟩)
  clear hyl
  go_enter Tryz.func31, Tryz.ntmps31
  go_wp2
  go_region_law (refine step_copy_splice rfl (.tmp 8) (.tmp 14) 30 30 rfl 3 Tryz.underlying30 (by kernel_rfl) (some ⟨w.heap.size + 1, 0, none⟩) A9 2 2 (l.length - ji.toNat) (c - ji.toNat) (by simp [Act.eval, Act.put]) (by simp [Act.eval, Act.put]) (w.heap.size + 1) 0 [.int .i64 0, .int .i64 0] 67 (two_new1 w _ _) [.int .i64 x1, .int .i64 x2] HM.out (fun _ => ⟨rfl, HP.out (by simp)⟩) (by simp) (by simp [Value.oneCell']) (w.heap.size + 1) _ (Below.refl _ _) (Nat.le_refl _) ?_; intro w4 hg4 hb4)
  have hB1 : w4.heap[w.heap.size]? = some (.cells #[.int .i64 0, .int .i64 0] 67 (0, 0)) := (hb4.block _ (Nat.lt_succ_self _)).trans (two_new0 w _ _)
  have hB2 : w4.heap[w.heap.size + 1]? = some (.cells #[.int .i64 x1, .int .i64 x2] 67 (0, 0)) := hg4
  have c0 : w4.cell? ⟨w.heap.size + 1, 0, none⟩ = some (.int .i64 x1) := by simp [World.cell?, hB2]
  have c1 : w4.cell? ⟨w.heap.size + 1, 1, none⟩ = some (.int .i64 x2) := by simp [World.cell?, hB2]
  have d0 : w4.cell? ⟨w.heap.size, 0, none⟩ = some (.int .i64 0) := by simp [World.cell?, hB1]
  have d1 : w4.cell? ⟨w.heap.size, 1, none⟩ = some (.int .i64 0) := by simp [World.cell?, hB1]
  have f0 : w4.frozen? ⟨w.heap.size, 0, none⟩ = false := by simp [World.frozen?, hB1]
  have f1 : w4.frozen? ⟨w.heap.size, 1, none⟩ = false := by simp [World.frozen?, hB1]
  have hbw : Below w.heap.size w w4 := ((((Below.refl _ _).alloc (Nat.le_refl _) _).alloc (by simp) _).drew).trans (hb4.mono (Nat.le_succ _))
  go_wp2
  refine bodyPost_ret (results_cell_row rfl _ _ w.heap.size 67 #[.int .i64 x1, .int .i64 x2] (0, 0) (.array 2 3) rfl (cells_two hB1) (by kernel_rfl) rfl (by kernel_rfl)) rfl ?_
  refine ⟨?_, (hbw.setCell (Nat.le_refl _) _).setCell (Nat.le_refl _) _⟩
  unfold packed2
  rw [← HY.out]
  rfl
end Go.Proofs.YtmocdgcjglmmjaaGreatDoor.Cx
