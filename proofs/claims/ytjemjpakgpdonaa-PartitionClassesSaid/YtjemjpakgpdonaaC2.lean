import Derived.Test.YtjemjpakgpdonaaC1
/-! partition.Classes: the loop over the members. -/
namespace Go.Proofs.Ytjemjpakgpdonaa.PAll
open Go.RowKit Go.Proofs.YtjemjpakgpdonaaW.PrintWords Go.Proofs.YtjemjpakgpdonaaW.PrintLast Go.Proofs.YtjemjpakgpdonaaW.PrintMore
attribute [local go_sem] max2_int min2_int max_two min_two max_three min_three max_four min_four
set_option linter.unusedVariables false
set_option linter.unusedSimpArgs false

/-! ### what the loop comes to -/
def putF (l : List Int) (s : List (List Int) × List Int) (i : Int) : List (List Int) × List Int :=
  if rd l i = i then (s.1 ++ [[i]], s.2.set i.toNat (s.1.length : Int)) else (s.1.set (rd s.2 (rd l i)).toNat (s.1.getD (rd s.2 (rd l i)).toNat [] ++ [i]), s.2)
def clsF (l : List Int) : Nat → List (List Int) × List Int
  | 0 => ([], List.replicate l.length 0)
  | k + 1 => putF l (clsF l k) (k : Int)
structure ClsInv (l : List Int) (k : Nat) (s : List (List Int) × List Int) : Prop where
  len : s.2.length = l.length
  few : s.1.length ≤ k
  short : ∀ j : Nat, (s.1.getD j []).length ≤ k
  at_ : ∀ j : Int, 0 ≤ j → j < k → rd l j = j → 0 ≤ rd s.2 j ∧ rd s.2 j < s.1.length
theorem cls_inv (l : List Int) (hv : Valid l) (k : Nat) (hk : k ≤ l.length) : ClsInv l k (clsF l k) := by
  induction k with
  | zero => exact ⟨by simp [clsF], by simp [clsF], fun j => by simp [clsF], fun j j0 j1 => by omega⟩
  | succ k ih =>
    obtain ⟨h1, h2, h3, h4⟩ := ih (by omega)
    simp only [clsF, putF]
    by_cases c : rd l (k : Int) = k
    · rw [if_pos c]
      refine ⟨by simp [h1], by simp; exact h2, fun j => ?_, fun j j0 j1 e => ?_⟩
      · simp only [List.getD_eq_getElem?_getD]
        rcases Nat.lt_or_ge j (clsF l k).1.length with hj | hj
        · rw [List.getElem?_append_left hj]
          have := h3 j
          rw [List.getD_eq_getElem?_getD] at this
          omega
        · rw [List.getElem?_append_right hj]
          rcases Nat.eq_zero_or_pos (j - (clsF l k).1.length) with e | e
          · rw [e]; simp
          · rw [List.getElem?_eq_none (by simp; omega)]; simp
      · show 0 ≤ rd ((clsF l k).2.set ((k : Int)).toNat _) j ∧ rd ((clsF l k).2.set ((k : Int)).toNat _) j < (((clsF l k).1 ++ [[(k : Int)]]).length : Int)
        rw [rd_set (by omega) (by rw [h1]; omega) j0, List.length_append]
        simp only [List.length_singleton]
        split
        · omega
        · have := h4 j j0 (by omega) e
          omega
    · rw [if_neg c]
      refine ⟨h1, by show ((clsF l k).1.set _ _).length ≤ _; rw [List.length_set]; omega, fun j => ?_, fun j j0 j1 e => ?_⟩
      · simp only [List.getD_eq_getElem?_getD, List.getElem?_set]
        have h3j := h3 j
        rw [List.getD_eq_getElem?_getD] at h3j
        split
        · split
          · have := h3 (rd (clsF l k).2 (rd l (k : Int))).toNat
            rw [List.getD_eq_getElem?_getD] at this
            simp only [Option.getD_some, List.length_append, List.length_singleton]
            omega
          · simp
        · omega
      · have := h4 j j0 (by
          by_cases q : j = k
          · rw [q] at e; exact absurd e c
          · omega) e
        show 0 ≤ rd (clsF l k).2 j ∧ rd (clsF l k).2 j < (((clsF l k).1.set _ _).length : Int)
        rw [List.length_set]
        exact this

/-! ### one member -/
theorem put_calls (w0 w : World) (bp bo bl gl cq : Nat) (A : Option Addr) (c : Nat) (l : List Int) (vo : Value) (k : Nat)
    (hr0 : (Kd.int .i64).C w0 A l.length l) (hv : Valid l) (h : St w0 w bp bo bl gl cq A c l vo (clsF l k).1 (clsF l k).2) (hk : k < l.length) :
    Calls Try.prog 28 #[.int .i64 (k : Int), .pointer (some ⟨bp, 0, none⟩), .pointer (some ⟨bo, 0, none⟩), .pointer (some ⟨bl, 0, none⟩)] w fun e w' => e = .returned (.tuple #[]) ∧ ∃ vo', St w0 w' bp bo bl gl cq A c l vo' (clsF l (k + 1)).1 (clsF l (k + 1)).2 := by
  obtain ⟨h1, h2, h3, h4⟩ := cls_inv l hv k (by omega)
  have hle := hv.le
  by_cases e : rd l (k : Int) = k
  · have hs : clsF l (k + 1) = ((clsF l k).1 ++ [[(k : Int)]], (clsF l k).2.set ((k : Int)).toNat ((clsF l k).1.length : Int)) := by simp only [clsF, putF]; rw [if_pos e]
    rw [hs]
    exact put_new w0 w bp bo bl gl cq A c l vo _ _ k hr0 h (by omega) (by omega) e (by rw [h1]; omega) (by omega)
  · have hs : clsF l (k + 1) = ((clsF l k).1.set (rd (clsF l k).2 (rd l (k : Int))).toNat ((clsF l k).1.getD (rd (clsF l k).2 (rd l (k : Int))).toNat [] ++ [(k : Int)]), (clsF l k).2) := by simp only [clsF, putF]; rw [if_neg e]
    rw [hs]
    have r0 := hv.lo (k : Int) (by omega) (by omega)
    have r1 := hv.hi (k : Int) (by omega) (by omega)
    have r2 := hv.id (k : Int) (by omega) (by omega)
    obtain ⟨k0, k1⟩ := h4 (rd l (k : Int)) r0 (by omega) r2
    exact put_old w0 w bp bo bl gl cq A c l vo _ _ k hr0 h (by omega) (by omega) e r0 (by rw [h1]; omega) k0 k1 _ rfl (by have := h3 (rd (clsF l k).2 (rd l (k : Int))).toNat; omega)

theorem made_form {α : Type} {d : Kd α} {e base H : Nat} {w : World} {ok : Nat → Prop} {v : Value} {xs : List α} (h : d.R e w base ok v xs) (hn : ∃ b, v.ownBlock = some b ∧ H ≤ b) : ∃ g c, v = .slice (some ⟨g, 0, none⟩) xs.length c ∧ H ≤ g := by
  obtain ⟨b, hb, hH⟩ := hn
  obtain ⟨_, inner, ho, hr⟩ := h
  obtain ⟨A, c, rfl⟩ := Kd.R_slice ⟨‹_›, inner, ho, hr⟩
  rcases ho.2 with ⟨e, _⟩ | ⟨g, cap, cur, e, _⟩
  · rw [e] at hb; simp [Value.ownBlock] at hb
  · rw [e] at hb
    have : g = b := by simpa [Value.ownBlock] using hb
    injection e with e1 e2 e3
    subst e1
    exact ⟨g, c, rfl, by omega⟩
theorem start_blocks {w w7 : World} {nd : Nat} {v : Value} (hg : (((w.alloc (.cells #[v] 24)).drewN nd).alloc (.cells #[.slice none 0 0] 41)).grownBy w7 none) :
    w7.heap[w.heap.size]? = some (.cells #[v] 24 (0, 0)) ∧ w7.heap[w.heap.size + 1]? = some (.cells #[.slice none 0 0] 41 (0, 0)) ∧ w.heap.size + 2 ≤ w7.heap.size := by
  have hs := hg.size
  simp at hs
  refine ⟨(hg.block _ (by simp; omega) (by simp)).trans ?_, (hg.block _ (by simp) (by simp)).trans ?_, by omega⟩
  · exact (Below.heap_alloc _ _ _ (by simp)).trans (heap_alloc_new w _)
  · have := heap_alloc_new ((w.alloc (.cells #[v] 24)).drewN nd) (.cells #[.slice none 0 0] 41)
    simpa using this
theorem St.start {w w7 : World} {nd gl cq c : Nat} {A : Option Addr} {l place : List Int} {ok : Nat → Prop} (hg : (((w.alloc (.cells #[.slice A l.length c] 24)).drewN nd).alloc (.cells #[.slice none 0 0] 41)).grownBy w7 none)
    (hb : Below w.heap.size w w7) (ho : Kd.R (Kd.int .i64) 3 w7 w.heap.size ok (.slice (some ⟨gl, 0, none⟩) place.length cq) place) (hgl : w.heap.size + 2 ≤ gl) :
    St w (w7.alloc (.cells #[.slice (some ⟨gl, 0, none⟩) place.length cq] 24)) w.heap.size (w.heap.size + 1) w7.heap.size gl cq A c l (.slice none 0 0) [] place := by
  obtain ⟨h1, h2, h3⟩ := start_blocks hg
  have hl := Kd.R_lt ho gl rfl
  refine ⟨below_alloc hb _, (Below.heap_alloc _ _ _ (by omega)).trans h1, (Below.heap_alloc _ _ _ (by omega)).trans h2, heap_alloc_new w7 _, Kd.S_nil _ _ _ _ _, ?_, by omega, by omega⟩
  exact Kd.R_reok rfl (Kd.R_alloc ho _) (fun k hk => by simpa [Value.ownBlock] using hk.symm)
/-! ### the whole -/
def partition_Classes.f (k : Nat) (l0 : List Int) : Option ((List (List Int)) × Int) := some (if chk l0 = 0 then ((clsF l0 l0.length).1, 0) else ([], chk l0))
theorem partition_Classes.mono : ∀ a0 k, LeO (partition_Classes.f k a0) (partition_Classes.f (k + 1) a0) := fun _ _ => LeO.refl _
set_option maxHeartbeats 4000000 in
theorem classes_no (A0 : Option Addr) (c0 : Nat) (l0 : List Int) (w : World) (hr0 : (Kd.int .i64).C w A0 l0.length l0) (hc0 : l0.length ≤ c0) (hn : chk l0 ≠ 0) :
    Calls Try.prog 24 #[.slice A0 l0.length c0] w fun e w' => e = .returned (.tuple #[.slice none 0 0, .int .i64 (chk l0)]) ∧ Below w.heap.size w w' := by
  obtain ⟨k, hk⟩ := (check_ev l0).rounds
  have HR := Aside0.mk hr0
  have HK := Aside0.mk hk
  have cb1 : (chk l0 == 0) = false := beq_eq_false_iff_ne.mpr hn
  have cb2 : (chk l0 != 0) = true := bne_iff_ne.mpr hn
  clear hr0 hk
  go_enter Try.func24, Try.ntmps24
  go_wp2_with (go_at_call 19; (with_reducible refine (partition_Check.calls k _ _ l0 _ _ (Kd.C_alloc HR.out _) hc0 HK.out).mono ?_); rintro e w' ⟨rfl, ⟨nd, rfl⟩⟩)
  go_ret2
  exact ⟨rfl, by repeat (first | (with_reducible first | exact Below.refl _ _ | apply below_alloc | apply pw_below_drewN | apply below_drew1) | exact Below.refl _ _)⟩
set_option maxHeartbeats 4000000 in
theorem classes_yes (A0 : Option Addr) (c0 : Nat) (l0 : List Int) (w : World) (hr0 : (Kd.int .i64).C w A0 l0.length l0) (hc0 : l0.length ≤ c0) (hn : chk l0 = 0) :
    Calls Try.prog 24 #[.slice A0 l0.length c0] w fun e w' => ∃ v0_ : Value, e = .returned (.tuple #[v0_, .int .i64 0]) ∧ Kd.S (Kd.slice 3 (Kd.int .i64)) 24 w' w.heap.size (fun _ => True) v0_ (clsF l0 l0.length).1 ∧ Below w.heap.size w w' := by
  obtain ⟨k, hk⟩ := (check_ev l0).rounds
  have HV := Aside0.mk (chk_valid.1 hn)
  rw [hn] at hk
  have hle := HV.out.le
  have HR := Aside0.mk hr0
  have HK := Aside0.mk hk
  clear hr0 hk hn
  go_enter Try.func24, Try.ntmps24
  go_wp2_with (first | (go_at_call 19; (with_reducible refine (partition_Check.calls k _ _ l0 _ _ (Kd.C_alloc HR.out _) hc0 HK.out).mono ?_); rintro e w' ⟨rfl, ⟨nd, rfl⟩⟩) | ((with_reducible refine gate_dst (N := 16) rfl ?_); refine Kd.R_make (Kd.int .i64) (w0 := w) w.heap.size 3 rfl (N := 16) rfl 24 _ _ rfl (l0.length : Int) rfl rfl Try.underlying24 (.int .i64 0) 8 info3 rfl (by decide) (by omega) 0 (ok := fun k => w.heap.size + 2 ≤ k) (okp := fun _ => False) rfl (fun _ hk => hk.elim) (by simp) (by omega) (by omega) (by repeat (first | (with_reducible first | exact Below.refl _ _ | apply below_alloc | apply pw_below_drewN | apply below_drew1) | exact Below.refl _ _)) (by simp; omega) ?_; intro v1 w7 ho hb hg hnew; obtain ⟨gl, cq, ev, hgl⟩ := made_form ho hnew; subst ev; have HO := Aside0.mk ho; have HB := Aside0.mk hb; have HG := Aside0.mk hg; have HN := Aside0.mk hgl; have hc18 : ∀ o, (w7.alloc o).cell? ⟨w.heap.size, 0, none⟩ = some (.slice A0 l0.length c0) := (fun o => (World.cell?_alloc_lt w7 o _ (by have := (start_blocks hg).2.2; show w.heap.size < _; omega)).trans (by simp [World.cell?, (start_blocks hg).1])); clear ho hb hg hnew hgl))
  have HS : Aside0 (St w (w7.alloc (.cells #[.slice (some ⟨gl, 0, none⟩) l0.length cq] 24)) w.heap.size (w.heap.size + 1) w7.heap.size gl cq A0 c0 l0 (.slice none 0 0) (clsF l0 0).1 (clsF l0 0).2) := ⟨by
    have := St.start (l := l0) HG.out HB.out HO.out (by simpa using HN.out)
    simpa [clsF] using this⟩
  clear HO HB HG HN hc18
  go_loopw [20] (fun v20 w' => ∃ (k : Nat) (vo : Value), k ≤ l0.length ∧ v20 = .int .i64 k ∧ Aside0 (St w w' w.heap.size (w.heap.size + 1) w7.heap.size gl cq A0 c0 l0 vo (clsF l0 k).1 (clsF l0 k).2)) (fun v20 _ => l0.length - (intOf v20).toNat)
  case atStart => exact ⟨0, _, Nat.zero_le _, rfl, HS⟩
  case round =>
    obtain ⟨k, vo, hk, rfl, hS⟩ := hrel
    by_cases hlt : k < l0.length
    · go_wp2_with (go_at_call 28; refine (put_calls w _ _ _ _ _ _ _ _ _ _ k HR.out HV.out hS.out hlt).mono ?_; rintro e w' ⟨rfl, vo', h'⟩; have HS' := Aside0.mk h'; clear h')
      go_roundw
      case rel => exact ⟨k + 1, vo', by omega, by go_num, HS'⟩
      case measure => simp [intOf]; omega
    · have hke : k = l0.length := by omega
      subst hke
      have hco := cell_of_row _ _ 0 _ _ _ hS.out.o
      go_wp2
      go_ret2
      exact ⟨_, rfl, Kd.S_mono hS.out.S (fun _ _ => trivial), hS.out.below⟩
theorem partition_Classes.calls (k : Nat) (A0 : Option Addr) (c0 : Nat) (l0 : List Int) (r1 : List (List Int)) (r2 : Int) (w : World) (hr0 : Kd.C (Kd.int .i64) w A0 l0.length l0) (hc0 : l0.length ≤ c0) (h : partition_Classes.f k l0 = some (r1, r2)) :
    Calls Try.prog 24 #[.slice A0 l0.length c0] w fun e w' => ∃ v0_ : Value, e = .returned (.tuple #[v0_, .int .i64 r2]) ∧ Kd.S (Kd.slice 3 (Kd.int .i64)) 24 w' w.heap.size (fun _ => True) v0_ r1 ∧ Below w.heap.size w w' := by
  unfold partition_Classes.f at h
  by_cases c : chk l0 = 0
  · rw [if_pos c] at h
    injection h with h
    injection h with h1 h2
    subst h1 h2
    exact classes_yes A0 c0 l0 w hr0 hc0 c
  · rw [if_neg c] at h
    injection h with h
    injection h with h1 h2
    subst h1 h2
    exact (classes_no A0 c0 l0 w hr0 hc0 c).mono fun e w' ⟨he, hb⟩ => ⟨_, he, Kd.S_nil _ _ _ _ _, hb⟩
end Go.Proofs.Ytjemjpakgpdonaa.PAll
