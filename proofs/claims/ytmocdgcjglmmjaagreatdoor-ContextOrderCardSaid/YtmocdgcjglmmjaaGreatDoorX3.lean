import Derived.Test.YtmocdgcjglmmjaaGreatDoorX1b
import Derived.Test.YtmocdgcjglmmjaaGreatDoorX2
/-! Prefix of contexts. -/
namespace Go.Proofs.YtmocdgcjglmmjaaGreatDoor.Cx
open Go.RowKit Go.Proofs.YtmocdgcjglmmjaaGreatDoorW.PrintWords Go.Proofs.YtmocdgcjglmmjaaGreatDoorW.PrintLast Go.Proofs.YtmocdgcjglmmjaaGreatDoorW.PrintMore
attribute [local go_sem] max2_int min2_int max_two min_two max_three min_three max_four min_four   -- for this text's walks alone
set_option linter.unusedVariables false
set_option linter.unusedSimpArgs false

def context_Prefix.f (k : Nat) (l0 : List Int) (l1 : List Int) : Option (Bool) := if l1.length ≤ 1000 then (if (l0.length : Int) > (l1.length : Int) then (some false) else (if (l0.length : Int) ≤ 2 then (some (decide (l0 = l1.drop (l1.length - l0.length)))) else (if 0 ≤ (wrap64 ((l1.length : Int) - (l0.length : Int))) then (if (wrap64 ((l1.length : Int) - (l0.length : Int))) ≤ (l1.length : Int) then ((slices_Equal_int_int.f k l0 (l1.drop ((wrap64 ((l1.length : Int) - (l0.length : Int))) : Int).toNat)).bind fun t121 => (some t121)) else (none)) else (none)))) else none
theorem context_Prefix.mono : ∀ a0 a1 k, LeO (context_Prefix.f k a0 a1) (context_Prefix.f (k + 1) a0 a1) := by
  intro a0 a1 k
  unfold context_Prefix.f
  repeat' first
      | (with_reducible exact slices_Equal_int_int.mono _ _ _)
      | (with_reducible exact LeO.refl _)
      | (with_reducible exact LeO.none _)
      | (with_reducible refine LeO.ite ?_ ?_)
      | (with_reducible refine LeO.bind ?_ (fun _ => ?_))
      | exact slices_Equal_int_int.mono _ _ _
      | exact LeO.none _
      | refine LeO.ite ?_ ?_
      | refine LeO.bind ?_ (fun _ => ?_)
theorem same0 {l : List Int} (h : l = []) : true = decide ([] = l) := (decide_eq_true h.symm).symm
theorem same1 {l : List Int} {x y : Int} (h : l = [y]) : decide (x = y) = decide ([x] = l) := by subst h; simp
theorem same2 {l : List Int} {x1 x2 y1 y2 : Int} (h : l = [y1, y2]) : (decide (x1 = y1) && decide (x2 = y2)) = decide ([x1, x2] = l) := by subst h; simp
theorem equal_two (a b c d : Int) (W : World) : (Op.equalIn 10000 67 (.agg #[.int .i64 a, .int .i64 b]) (.agg #[.int .i64 c, .int .i64 d])).run Tryz.prog W = .ok (decide (a = c) && decide (b = d)) W := by
  have hu : Tryz.prog.underlying 67 = some (.array 2 3) := by kernel_rfl
  have hi : ∃ i, Tryz.prog.info? 3 = some i ∧ i.size = 1 := by
    obtain ⟨i, hi, _, hs, _⟩ := info_parts info3
    exact ⟨i, hi, hs⟩
  obtain ⟨i, hi, hs⟩ := hi
  rw [show (10000 : Nat) = 9998 + 1 + 1 from rfl]
  generalize 9998 = k
  have inner : ∀ (x y : Int), (Op.equalIn (k + 1) 3 (.int .i64 x) (.int .i64 y)).run Tryz.prog W = .ok (decide (x = y)) W := by
    intro x y
    simp only [Op.equalIn]
    simp [run_underlying Tryz.underlying3]
    rfl
  rw [Op.equalIn]
  simp [run_underlying hu, sizeOf, typeInfo, hi, hs, part, isAgg, run_underlying Tryz.underlying3, inner, Std.Legacy.Range.forIn_eq_forIn_range', List.range']
  by_cases h1 : a = c
  · rw [if_pos h1]
    by_cases h2 : b = d
    · rw [if_pos h2]; simp [h1, h2]
    · rw [if_neg h2]; simp [h2]
  · rw [if_neg h1]; simp [h1]
theorem context_pack.made0  (A : Option Addr) (c L : Nat) (l : List Int) (w : World) (hr : Kd.C (Kd.int .i64) w A l.length l) (hc : l.length ≤ c) (hnl : 0 ≤ l.length) (hl : l.length ≤ 1000) (hd : l.drop (l.length - 0) = []) (hL : l.length = L) :
    Calls Tryz.prog 31 #[.slice A L c, .int .i64 0] w fun e w' => e = .returned (.agg #[.int .i64 0, .int .i64 0]) ∧ Below w.heap.size w w' := by
  subst hL
  refine (context_pack.calls0 A c l w hr hc hnl hl).mono ?_
  rintro e w' ⟨rfl, hb⟩
  refine ⟨?_, hb⟩
  unfold packed0
  rw [hd]
  rfl
theorem context_pack.made1 (x1 : Int) (A : Option Addr) (c L : Nat) (l : List Int) (w : World) (hr : Kd.C (Kd.int .i64) w A l.length l) (hc : l.length ≤ c) (hnl : 1 ≤ l.length) (hl : l.length ≤ 1000) (hd : l.drop (l.length - 1) = [x1]) (hL : l.length = L) :
    Calls Tryz.prog 31 #[.slice A L c, .int .i64 1] w fun e w' => e = .returned (.agg #[.int .i64 0, .int .i64 x1]) ∧ Below w.heap.size w w' := by
  subst hL
  refine (context_pack.calls1 A c l w hr hc hnl hl).mono ?_
  rintro e w' ⟨rfl, hb⟩
  refine ⟨?_, hb⟩
  unfold packed1
  rw [hd]
  rfl
theorem context_pack.made2 (x1 : Int) (x2 : Int) (A : Option Addr) (c L : Nat) (l : List Int) (w : World) (hr : Kd.C (Kd.int .i64) w A l.length l) (hc : l.length ≤ c) (hnl : 2 ≤ l.length) (hl : l.length ≤ 1000) (hd : l.drop (l.length - 2) = [x1, x2]) (hL : l.length = L) :
    Calls Tryz.prog 31 #[.slice A L c, .int .i64 2] w fun e w' => e = .returned (.agg #[.int .i64 x1, .int .i64 x2]) ∧ Below w.heap.size w w' := by
  subst hL
  refine (context_pack.calls2 A c l w hr hc hnl hl).mono ?_
  rintro e w' ⟨rfl, hb⟩
  refine ⟨?_, hb⟩
  unfold packed2
  rw [hd]
  rfl
set_option maxHeartbeats 8000000 in
set_option maxRecDepth 100000 in
theorem context_Prefix.calls (k : Nat) (A0 : Option Addr) (c0 : Nat) (l0 : List Int) (A1 : Option Addr) (c1 : Nat) (l1 : List Int) (r : Bool) (w : World) (hr0 : Kd.C (Kd.int .i64) w A0 l0.length l0) (hc0 : l0.length ≤ c0) (hr1 : Kd.C (Kd.int .i64) w A1 l1.length l1) (hc1 : l1.length ≤ c1) (h : context_Prefix.f k l0 l1 = some r) :
    Calls Tryz.prog 12 #[.slice A0 l0.length c0, .slice A1 l1.length c1] w fun e w' => e = .returned (.bool r) ∧ Below w.heap.size w w' := by
  have HR0 := Aside0.mk hr0
  have HC0 := Aside0.mk hc0
  clear hr0 hc0
  have HR1 := Aside0.mk hr1
  have HC1 := Aside0.mk hc1
  clear hr1 hc1
  have HB := Aside0.mk (Below.refl w.heap.size w)
  unfold context_Prefix.f at h
  by_cases hlen : l1.length ≤ 1000
  case neg => rw [if_neg hlen] at h; cases h
  rw [if_pos hlen] at h
  have HL := Aside0.mk hlen
  clear hlen
  have H : (if (l0.length : Int) > (l1.length : Int) then (some false) else (if (l0.length : Int) ≤ 2 then (some (decide (l0 = l1.drop (l1.length - l0.length)))) else (if 0 ≤ (wrap64 ((l1.length : Int) - (l0.length : Int))) then (if (wrap64 ((l1.length : Int) - (l0.length : Int))) ≤ (l1.length : Int) then ((slices_Equal_int_int.f k l0 (l1.drop ((wrap64 ((l1.length : Int) - (l0.length : Int))) : Int).toNat)).bind fun t121 => (some t121)) else (none)) else (none)))) = some r := h
  clear h
  by_cases c3 : (l0.length : Int) > (l1.length : Int)
  · rw [if_pos c3] at H
    have c3b0 : decide ((l1.length : Int) < (l0.length : Int)) = true := decide_eq_true c3
    have c3b1 : decide (l1.length < l0.length) = true := decide_eq_true (Int.ofNat_lt.mp c3)
    clear c3
    obtain rfl := Option.some.inj H
    go_enter Tryz.func12, Tryz.ntmps12
    go_wp2
    go_ret
    exact ⟨rfl, HB.out⟩
  · rw [if_neg c3] at H
    have c3b0 : decide ((l1.length : Int) < (l0.length : Int)) = false := decide_eq_false c3
    have c3b1 : decide (l1.length < l0.length) = false := decide_eq_false (fun h => c3 (Int.ofNat_lt.mpr h))
    have HLE := Aside0.mk (show l0.length ≤ l1.length by omega)
    clear c3
    by_cases c4 : (l0.length : Int) ≤ 2
    · rw [if_pos c4] at H
      obtain rfl := Option.some.inj H
      clear H
      have h2 : l0.length ≤ 2 := by omega
      clear c4
      match l0, h2 with
      | [], _ =>
        have HY0 := Aside0.mk (show (l1.drop (l1.length - 0)).length = 0 by rw [List.length_drop]; have := HLE.out; simp only [List.length_cons, List.length_nil] at this; omega)
        obtain ⟨ys, hys⟩ : ∃ ys : List Int, l1.drop (l1.length - 0) = ys := ⟨_, rfl⟩
        have hyl : ys.length = 0 := by rw [← hys]; exact HY0.out
        obtain rfl := List.eq_nil_of_length_eq_zero hyl
        have HY := Aside0.mk hys
        clear hys hyl HY0
        have hq := equal_two 0 0 0 0
        have c30 : decide ((l1.length : Int) < 0) = false := decide_eq_false (by have := HLE.out; simp only [List.length_cons, List.length_nil] at this; omega)
        have c31 : decide (l1.length < 0) = false := decide_eq_false (by have := HLE.out; simp only [List.length_cons, List.length_nil] at this; omega)
        clear c3b0 c3b1 h2
        go_enter Tryz.func12, Tryz.ntmps12
        go_wp2_with (first | (go_at_call 31; (with_reducible refine (context_pack.made0  _ _ _ [] _ ?side1 ?side2 ?side3 ?side4 ?side5 (by first | rfl | simp)).mono ?_); (case side1 => repeat (first | exact (Kd.C_below HR0.out HB.out) | (with_reducible refine Kd.C_alloc ?_ _) | (with_reducible refine Kd.C_drewN ?_ _) | (with_reducible refine Kd.C_drew ?_))); (case side2 => exact HC0.out); (case side3 => exact (by simp)); (case side4 => exact (by simp)); (case side5 => exact rfl); rintro e w7 ⟨rfl, hb⟩; have n0_ := Aside0.mk (below_step (by repeat (first | (with_reducible first | exact HB.out | apply below_alloc | apply pw_below_drewN | apply below_drew1) | exact HB.out)) hb); clear HB; have HB := n0_; clear n0_; (try clear hb)) | (go_at_call 31; (with_reducible refine (context_pack.made0  _ _ _ l1 _ ?side1 ?side2 ?side3 ?side4 ?side5 (by first | rfl | simp)).mono ?_); (case side1 => repeat (first | exact (Kd.C_below HR1.out HB.out) | (with_reducible refine Kd.C_alloc ?_ _) | (with_reducible refine Kd.C_drewN ?_ _) | (with_reducible refine Kd.C_drew ?_))); (case side2 => exact HC1.out); (case side3 => exact HLE.out); (case side4 => exact HL.out); (case side5 => exact HY.out); rintro e w7 ⟨rfl, hb⟩; have n0_ := Aside0.mk (below_step (by repeat (first | (with_reducible first | exact HB.out | apply below_alloc | apply pw_below_drewN | apply below_drew1) | exact HB.out)) hb); clear HB; have HB := n0_; clear n0_; (try clear hb)))
        go_ret
        refine ⟨congrArg (fun b => Ending.returned (Value.bool b)) (same0 HY.out), HB.out⟩
      | [x1], _ =>
        have HY0 := Aside0.mk (show (l1.drop (l1.length - 1)).length = 1 by rw [List.length_drop]; have := HLE.out; simp only [List.length_cons, List.length_nil] at this; omega)
        obtain ⟨ys, hys⟩ : ∃ ys : List Int, l1.drop (l1.length - 1) = ys := ⟨_, rfl⟩
        have hyl : ys.length = 1 := by rw [← hys]; exact HY0.out
        obtain ⟨y1, rfl⟩ := List.length_eq_one_iff.1 hyl
        have HY := Aside0.mk hys
        clear hys hyl HY0
        have hq := equal_two 0 x1 0 y1
        have c30 : decide ((l1.length : Int) < 1) = false := decide_eq_false (by have := HLE.out; simp only [List.length_cons, List.length_nil] at this; omega)
        have c31 : decide (l1.length < 1) = false := decide_eq_false (by have := HLE.out; simp only [List.length_cons, List.length_nil] at this; omega)
        clear c3b0 c3b1 h2
        go_enter Tryz.func12, Tryz.ntmps12
        go_wp2_with (first | (go_at_call 31; (with_reducible refine (context_pack.made1 x1 _ _ _ [x1] _ ?side1 ?side2 ?side3 ?side4 ?side5 (by first | rfl | simp)).mono ?_); (case side1 => repeat (first | exact (Kd.C_below HR0.out HB.out) | (with_reducible refine Kd.C_alloc ?_ _) | (with_reducible refine Kd.C_drewN ?_ _) | (with_reducible refine Kd.C_drew ?_))); (case side2 => exact HC0.out); (case side3 => exact (by simp)); (case side4 => exact (by simp)); (case side5 => exact rfl); rintro e w7 ⟨rfl, hb⟩; have n0_ := Aside0.mk (below_step (by repeat (first | (with_reducible first | exact HB.out | apply below_alloc | apply pw_below_drewN | apply below_drew1) | exact HB.out)) hb); clear HB; have HB := n0_; clear n0_; (try clear hb)) | (go_at_call 31; (with_reducible refine (context_pack.made1 y1 _ _ _ l1 _ ?side1 ?side2 ?side3 ?side4 ?side5 (by first | rfl | simp)).mono ?_); (case side1 => repeat (first | exact (Kd.C_below HR1.out HB.out) | (with_reducible refine Kd.C_alloc ?_ _) | (with_reducible refine Kd.C_drewN ?_ _) | (with_reducible refine Kd.C_drew ?_))); (case side2 => exact HC1.out); (case side3 => exact HLE.out); (case side4 => exact HL.out); (case side5 => exact HY.out); rintro e w7 ⟨rfl, hb⟩; have n0_ := Aside0.mk (below_step (by repeat (first | (with_reducible first | exact HB.out | apply below_alloc | apply pw_below_drewN | apply below_drew1) | exact HB.out)) hb); clear HB; have HB := n0_; clear n0_; (try clear hb)))
        go_ret
        refine ⟨congrArg (fun b => Ending.returned (Value.bool b)) (same1 HY.out), HB.out⟩
      | [x1, x2], _ =>
        have HY0 := Aside0.mk (show (l1.drop (l1.length - 2)).length = 2 by rw [List.length_drop]; have := HLE.out; simp only [List.length_cons, List.length_nil] at this; omega)
        obtain ⟨ys, hys⟩ : ∃ ys : List Int, l1.drop (l1.length - 2) = ys := ⟨_, rfl⟩
        have hyl : ys.length = 2 := by rw [← hys]; exact HY0.out
        obtain ⟨y1, y2, rfl⟩ := (show ∃ a b, ys = [a, b] from match ys, hyl with | [a, b], _ => ⟨a, b, rfl⟩)
        have HY := Aside0.mk hys
        clear hys hyl HY0
        have hq := equal_two x1 x2 y1 y2
        have c30 : decide ((l1.length : Int) < 2) = false := decide_eq_false (by have := HLE.out; simp only [List.length_cons, List.length_nil] at this; omega)
        have c31 : decide (l1.length < 2) = false := decide_eq_false (by have := HLE.out; simp only [List.length_cons, List.length_nil] at this; omega)
        clear c3b0 c3b1 h2
        go_enter Tryz.func12, Tryz.ntmps12
        go_wp2_with (first | (go_at_call 31; (with_reducible refine (context_pack.made2 x1 x2 _ _ _ [x1, x2] _ ?side1 ?side2 ?side3 ?side4 ?side5 (by first | rfl | simp)).mono ?_); (case side1 => repeat (first | exact (Kd.C_below HR0.out HB.out) | (with_reducible refine Kd.C_alloc ?_ _) | (with_reducible refine Kd.C_drewN ?_ _) | (with_reducible refine Kd.C_drew ?_))); (case side2 => exact HC0.out); (case side3 => exact (by simp)); (case side4 => exact (by simp)); (case side5 => exact rfl); rintro e w7 ⟨rfl, hb⟩; have n0_ := Aside0.mk (below_step (by repeat (first | (with_reducible first | exact HB.out | apply below_alloc | apply pw_below_drewN | apply below_drew1) | exact HB.out)) hb); clear HB; have HB := n0_; clear n0_; (try clear hb)) | (go_at_call 31; (with_reducible refine (context_pack.made2 y1 y2 _ _ _ l1 _ ?side1 ?side2 ?side3 ?side4 ?side5 (by first | rfl | simp)).mono ?_); (case side1 => repeat (first | exact (Kd.C_below HR1.out HB.out) | (with_reducible refine Kd.C_alloc ?_ _) | (with_reducible refine Kd.C_drewN ?_ _) | (with_reducible refine Kd.C_drew ?_))); (case side2 => exact HC1.out); (case side3 => exact HLE.out); (case side4 => exact HL.out); (case side5 => exact HY.out); rintro e w7 ⟨rfl, hb⟩; have n0_ := Aside0.mk (below_step (by repeat (first | (with_reducible first | exact HB.out | apply below_alloc | apply pw_below_drewN | apply below_drew1) | exact HB.out)) hb); clear HB; have HB := n0_; clear n0_; (try clear hb)))
        go_ret
        refine ⟨congrArg (fun b => Ending.returned (Value.bool b)) (same2 HY.out), HB.out⟩
    · rw [if_neg c4] at H
      have c4b0 : decide ((l0.length : Int) ≤ 2) = false := decide_eq_false c4
      have c4b1 : decide (l0.length ≤ 2) = false := decide_eq_false (fun h => c4 (by omega))
      clear c4
      obtain ⟨ji5, hji5⟩ : ∃ j_ : Int, (wrap64 ((l1.length : Int) - (l0.length : Int))) = j_ := ⟨_, rfl⟩
      replace H : (if 0 ≤ (ji5) then (if (ji5) ≤ (l1.length : Int) then ((slices_Equal_int_int.f k l0 (l1.drop ((ji5) : Int).toNat)).bind fun t121 => (some t121)) else (none)) else (none)) = some r := by first | (rw [hji5] at H; exact H) | (simp only [hji5] at H ⊢; exact H)
      have hji5w : (IntKind.i64.wrap ((l1.length : Int) - (l0.length : Int))) = ji5 := (i64_w _).trans hji5
      by_cases c6 : 0 ≤ (ji5)
      · rw [if_pos c6] at H
        have c6b0 := eq_true c6
        have c6b1 : decide (0 ≤ (ji5)) = true := decide_eq_true c6
        clear c6
        by_cases c7 : (ji5) ≤ (l1.length : Int)
        · rw [if_pos c7] at H
          have c7b0 := eq_true c7
          have c7b1 : decide ((ji5) ≤ (l1.length : Int)) = true := decide_eq_true c7
          clear c7
          replace H := Option.bind_eq_some_iff.mp H
          obtain ⟨t121, A80, H⟩ := H
          replace H : (some t121) = some r := H
          have A8 := Aside0.mk A80
          clear A80
          obtain rfl := Option.some.inj H
          obtain ⟨i09, hi09, _, hsz9, _⟩ := info_parts info3
          obtain ⟨A9, hcut9, hA9, hC9⟩ := print_drop_of (P := Tryz.prog) (Value.int .i64) 0 30 3 .i64 Tryz.underlying30 hi09 hsz9 A1 c1 l1 (ji5) (of_decide_eq_true (by first | (with_reducible assumption) | assumption)) (of_decide_eq_true (by first | (with_reducible assumption) | assumption)) HC1.out
          have HR120 := Aside0.mk (Kd.C_of_reads (h1 := fun _ => rfl) (hA9 _ (Kd.reads_of_C HR1.out)))
          have HC120 := Aside0.mk hC9
          clear hA9 hC9 hi09 hsz9
          go_enter Tryz.func12, Tryz.ntmps12
          go_wp2_with (first | ((with_reducible refine gate_callee (f := 32) rfl ?_); refine goesL_ (some 30) rfl rfl Tryz.func32 (by kernel_rfl) rfl #[.slice A0 l0.length c0, .slice A9 (l1.drop ((ji5) : Int).toNat).length (c1 - (ji5).toNat)] rfl (by (try simp only [List.map_toArray, List.map_cons, List.map_nil]); first | done | (rw [show (l1.drop ((ji5) : Int).toNat).length = (l1.length - (ji5).toNat) from List.length_drop] <;> rfl) | (simp only [hji5]; rfl) | rfl | (simp only [List.length_drop, List.length_take]; rfl)) ?_; (with_reducible refine (slices_Equal_int_int.calls k _ _ l0 _ _ (l1.drop ((ji5) : Int).toNat) t121 _ ?side1 ?side2 ?side3 ?side4 A8.out).mono ?_); (case side1 => repeat (first | exact HR0.out | (with_reducible refine Kd.C_alloc ?_ _) | (with_reducible refine Kd.C_drewN ?_ _) | (with_reducible refine Kd.C_drew ?_))); (case side2 => exact HC0.out); (case side3 => repeat (first | exact HR120.out | (with_reducible refine Kd.C_alloc ?_ _) | (with_reducible refine Kd.C_drewN ?_ _) | (with_reducible refine Kd.C_drew ?_))); (case side4 => exact HC120.out); rintro e w' ⟨rfl, ⟨nd, rfl⟩⟩; refine ⟨_, rfl, ?_⟩))
          go_ret
          exact ⟨by first | rfl | (simp; done) | (simp only [← hji5] <;> (first | rfl | simp)) | (simp [*]; done), by repeat (first | (with_reducible first | exact HB.out | apply below_alloc | apply pw_below_drewN | apply below_drew1) | exact HB.out)⟩
        · rw [if_neg c7] at H
          exact absurd H (by simp)
      · rw [if_neg c6] at H
        exact absurd H (by simp)
end Go.Proofs.YtmocdgcjglmmjaaGreatDoor.Cx
