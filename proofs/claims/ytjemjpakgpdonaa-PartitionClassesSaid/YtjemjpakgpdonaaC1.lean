import Derived.Test.YtjemjpakgpdonaaB3
import Derived.Deep.RegionLaw
/-! The closure of partition.Classes: one member is put into its class. -/
namespace Go.Proofs.Ytjemjpakgpdonaa.PAll
open Go.RowKit Go.Proofs.YtjemjpakgpdonaaW.PrintWords Go.Proofs.YtjemjpakgpdonaaW.PrintLast Go.Proofs.YtjemjpakgpdonaaW.PrintMore
attribute [local go_sem] max2_int min2_int max_two min_two max_three min_three max_four min_four
set_option linter.unusedVariables false
set_option linter.unusedSimpArgs false
theorem info24 : (Try.prog.info? 24).map (fun i => (i.zero, i.size, i.bytes)) = some (some (.slice none 0 0), 1, 24) := by kernel_rfl

/-- What the closure of Classes finds: p, the classes so far and the places, each behind a variable of its own. -/
structure St (w0 w : World) (bp bo bl gl cq : Nat) (A : Option Addr) (c : Nat) (l : List Int) (vo : Value) (out : List (List Int)) (place : List Int) : Prop where
  below : Below w0.heap.size w0 w
  p : w.heap[bp]? = some (.cells #[.slice A l.length c] 24 (0, 0))
  o : w.heap[bo]? = some (.cells #[vo] 41 (0, 0))
  q : w.heap[bl]? = some (.cells #[.slice (some ⟨gl, 0, none⟩) place.length cq] 24 (0, 0))
  S : Kd.S (Kd.slice 3 (Kd.int .i64)) 24 w w0.heap.size (fun k => k ≠ bp ∧ k ≠ bo ∧ k ≠ bl ∧ k ≠ gl) vo out
  R : Kd.R (Kd.int .i64) 3 w w0.heap.size (fun k => k = gl) (.slice (some ⟨gl, 0, none⟩) place.length cq) place
  apart : bp ≠ bo ∧ bp ≠ bl ∧ bp ≠ gl ∧ bo ≠ bl ∧ bo ≠ gl ∧ bl ≠ gl
  base : w0.heap.size ≤ bp ∧ w0.heap.size ≤ bo ∧ w0.heap.size ≤ bl ∧ w0.heap.size ≤ gl
section
variable {w0 w : World} {bp bo bl gl cq : Nat} {A : Option Addr} {c : Nat} {l : List Int} {vo : Value} {out : List (List Int)} {place : List Int}
theorem St.lt (h : St w0 w bp bo bl gl cq A c l vo out place) : bp < w.heap.size ∧ bo < w.heap.size ∧ bl < w.heap.size ∧ gl < w.heap.size :=
  ⟨blk_lt h.p, blk_lt h.o, blk_lt h.q, Kd.R_lt h.R gl rfl⟩
theorem St.fresh (h : St w0 w bp bo bl gl cq A c l vo out place) (k : Nat) (hk : w.heap.size ≤ k) : (k ≠ bp ∧ k ≠ bo ∧ k ≠ bl ∧ k ≠ gl) ∧ w.heap.size ≤ k := by
  have := h.lt
  exact ⟨by omega, hk⟩
theorem St.drewN (h : St w0 w bp bo bl gl cq A c l vo out place) (m : Nat) : St w0 (w.drewN m) bp bo bl gl cq A c l vo out place :=
  ⟨pw_below_drewN h.below m, h.p, h.o, h.q, Kd.S_drewN h.S m, Kd.R_drewN h.R m, h.apart, h.base⟩
/-- Class k has one member more. -/
theorem St.put {w1 : World} {g co m cce cv : Nat} {Ae Av : Option Addr} {k i : Int} {y : List Int} {oki : Nat → Prop} (h : St w0 w bp bo bl gl cq A c l (.slice (some ⟨g, 0, none⟩) out.length co) out place) (k0 : 0 ≤ k) (k1 : k < out.length)
    (hH : Kd.H (Kd.slice 3 (Kd.int .i64)) 24 w w0.heap.size (fun k => k ≠ bp ∧ k ≠ bo ∧ k ≠ bl ∧ k ≠ gl) (.slice (some ⟨g, 0, none⟩) out.length co) out k oki [.slice Ae y.length cce])
    (ge : Kd.R (Kd.int .i64) 3 w w0.heap.size oki (.slice Ae y.length cce) y) (hoki : ∀ k, oki k → (k ≠ bp ∧ k ≠ bo ∧ k ≠ bl ∧ k ≠ gl) ∧ k ≠ g)
    (hb : Below w0.heap.size w0 w1) (hg : (w.drewN m).grownBy w1 (Value.slice Ae y.length cce).ownBlock)
    (ho : Kd.R (Kd.int .i64) 3 w1 w0.heap.size (fun k_ => oki k_ ∨ (k_ ≠ bp ∧ k_ ≠ bo ∧ k_ ≠ bl ∧ k_ ≠ gl) ∧ w.heap.size ≤ k_) (.slice Av (y ++ [i]).length cv) (y ++ [i])) :
    St w0 (w1.setCell ⟨g, k.toNat, none⟩ (.slice Av (y ++ [i]).length cv)) bp bo bl gl cq A c l (.slice (some ⟨g, 0, none⟩) out.length co) (out.set k.toNat (y ++ [i])) place := by
  have hgok : g ≠ bp ∧ g ≠ bo ∧ g ≠ bl ∧ g ≠ gl := (Kd.S_R h.S).1 g rfl
  have hlt := h.lt
  have own : ∀ q, (Value.slice Ae y.length cce).ownBlock = some q → (q ≠ bp ∧ q ≠ bo ∧ q ≠ bl ∧ q ≠ gl) ∧ q ≠ g := fun q hq => hoki q (ge.1 q hq)
  have far : ∀ q, q < w.heap.size → (q = bp ∨ q = bo ∨ q = bl ∨ q = gl) → (w1.setCell ⟨g, k.toNat, none⟩ (.slice Av (y ++ [i]).length cv)).heap[q]? = w.heap[q]? := by
    intro q hq hqq
    refine (Below.heap_setCell w1 ⟨g, k.toNat, none⟩ _ q (by show q ≠ g; omega)).trans (hg.block q hq (fun e => ?_))
    have := own q e.symm
    omega
  have hbase : w0.heap.size ≤ g := Kd.S_base h.S g rfl
  have HW := Kd.H_grown (Kd.H_widen (Kd.H_drewN hH m)) hg (fun k_ e_ => .inl (ge.1 k_ e_))
  have HP := Kd.S_seg0 HW k0 k1 (seg := [.slice Av (y ++ [i]).length cv]) (j := 0) (show 1 ≤ 1 from by decide) (x' := y ++ [i]) (Kd.M_row ho) (fun _ hk => hk)
  simp only [show ((Kd.slice 3 (Kd.int .i64))).sz = 1 from rfl, Nat.mul_one, Nat.add_zero] at HP
  have HS := HP.1
  refine ⟨below_set hb hbase, (far bp hlt.1 (by simp)).trans h.p, (far bo hlt.2.1 (by simp)).trans h.o, (far bl hlt.2.2.1 (by simp)).trans h.q, HS, Kd.R_move h.R (fun q hq => far q (by omega) (by simp [hq])), h.apart, h.base⟩
/-- A new class, without a member. -/
theorem St.new {w2 : World} {v1 : Value} {i : Int} (h : St w0 w bp bo bl gl cq A c l vo out place) (i0 : 0 ≤ i) (i1 : i < place.length)
    (hb : Below w0.heap.size w0 w2) (hg : (w.setCell ⟨gl, i.toNat, none⟩ (.int .i64 (out.length : Int))).grownBy w2 vo.ownBlock)
    (ho : Kd.S (Kd.slice 3 (Kd.int .i64)) 24 w2 w0.heap.size (fun k => k ≠ bp ∧ k ≠ bo ∧ k ≠ bl ∧ k ≠ gl) v1 (out ++ [[]])) :
    St w0 (w2.setCell ⟨bo, 0, none⟩ v1) bp bo bl gl cq A c l v1 (out ++ [[]]) (place.set i.toNat (out.length : Int)) := by
  have hlt := h.lt
  have ha := h.apart
  have own : ∀ q, vo.ownBlock = some q → (q ≠ bp ∧ q ≠ bo ∧ q ≠ bl ∧ q ≠ gl) := fun q hq => (Kd.S_R h.S).1 q hq
  have hsz : (w.setCell ⟨gl, i.toNat, none⟩ (.int .i64 (out.length : Int))).heap.size = w.heap.size := by simp [World.setCell]
  have far : ∀ q, q < w.heap.size → (q = bp ∨ q = bo ∨ q = bl ∨ q = gl) → w2.heap[q]? = (w.setCell ⟨gl, i.toNat, none⟩ (.int .i64 (out.length : Int))).heap[q]? := by
    intro q hq hqq
    refine hg.block q (by rw [hsz]; exact hq) (fun e => ?_)
    have := own q e.symm
    omega
  have farg : ∀ q, q < w.heap.size → (q = bp ∨ q = bl) → (w2.setCell ⟨bo, 0, none⟩ v1).heap[q]? = w.heap[q]? := by
    intro q hq hqq
    refine (Below.heap_setCell w2 ⟨bo, 0, none⟩ _ q (by show q ≠ bo; omega)).trans ((far q hq (by omega)).trans (Below.heap_setCell w _ _ q (by show q ≠ gl; omega)))
  have hl : (place.set i.toNat (out.length : Int)).length = place.length := List.length_set
  have HR := (Kd.R_putg h.R i (out.length : Int)).1
  refine ⟨below_set hb h.base.2.1, (farg bp hlt.1 (by simp)).trans h.p, ?_, by rw [hl]; exact (farg bl hlt.2.2.1 (by simp)).trans h.q, ?_, ?_, ha, h.base⟩
  · have e2 := (far bo hlt.2.1 (by simp)).trans ((Below.heap_setCell w ⟨gl, i.toNat, none⟩ _ bo (by show bo ≠ gl; omega)).trans h.o)
    simp [World.setCell, Array.getElem?_modify, e2]
  · exact Kd.S_move ho (fun q hq => Below.heap_setCell w2 _ _ q (by show q ≠ bo; omega))
  · rw [hl]
    refine Kd.R_move HR (fun q hq => ?_)
    exact (Below.heap_setCell w2 ⟨bo, 0, none⟩ _ q (by show q ≠ bo; omega)).trans (far q (by omega) (by simp [hq]))
end
set_option maxHeartbeats 4000000 in
theorem put_old (w0 w : World) (bp bo bl gl cq : Nat) (A : Option Addr) (c : Nat) (l : List Int) (vo : Value) (out : List (List Int)) (place : List Int) (i : Int)
    (hr0 : (Kd.int .i64).C w0 A l.length l) (h : St w0 w bp bo bl gl cq A c l vo out place) (i0 : 0 ≤ i) (i1 : i < l.length) (hne : rd l i ≠ i) (r0 : 0 ≤ rd l i) (r1 : rd l i < place.length)
    (k0 : 0 ≤ rd place (rd l i)) (k1 : rd place (rd l i) < out.length) (y : List Int) (hy : out.getD (rd place (rd l i)).toNat [] = y) (hlen : y.length < 17592186044416) :
    Calls Try.prog 28 #[.int .i64 i, .pointer (some ⟨bp, 0, none⟩), .pointer (some ⟨bo, 0, none⟩), .pointer (some ⟨bl, 0, none⟩)] w fun e w' => e = .returned (.tuple #[]) ∧ ∃ vo', St w0 w' bp bo bl gl cq A c l vo' (out.set (rd place (rd l i)).toNat (y ++ [i])) place := by
  obtain ⟨ad, e1, hx0⟩ := Kd.at_int hr0 i i0 i1
  subst e1
  have hcp : w.cell? ⟨bp, 0, none⟩ = some (.slice (some ad) l.length c) := by simp [World.cell?, h.p]
  have hcq : w.cell? ⟨bl, 0, none⟩ = some (.slice (some ⟨gl, 0, none⟩) place.length cq) := by simp [World.cell?, h.q]
  have hx1 := (h.below.cell (World.block_lt_of_cell? w0 _ hx0)).trans hx0
  have cb2 : decide (0 ≤ i) = true := decide_eq_true i0
  have cb3 : decide (i < (l.length : Int)) = true := decide_eq_true i1
  have H := Aside0.mk h
  have HY := Aside0.mk hy
  clear h hy
  have cb : (rd l i == i) = false := beq_eq_false_iff_ne.mpr hne
  go_enter Try.func28, Try.ntmps28
  obtain ⟨ad2, e2, hx2⟩ := Kd.at_int (Kd.R_reads' H.out.R).2.2 (rd l i) r0 r1
  injection e2 with e2
  subst e2
  rw [add_plain] at hx2
  have hcp2 : w.cell? ⟨bp, 0, none⟩ = some (.slice (some ad) l.length c) := by simp [World.cell?, H.out.p]
  have hcq2 : w.cell? ⟨bl, 0, none⟩ = some (.slice (some ⟨gl, 0, none⟩) place.length cq) := by simp [World.cell?, H.out.q]
  have hx12 := (H.out.below.cell (World.block_lt_of_cell? w0 _ hx0)).trans hx0
  go_wp2
  go_quiet (fail)
  rename_i nq
  have hn : 0 < out.length := by omega
  obtain ⟨go39, co39, eo39, gb39, gl39, cl39, HG39⟩ := Kd.S_form H.out.S hn
  (first | subst eo39 | (injection eo39 with ea_ _ ec_; subst ea_; replace ec_ := ec_.symm; subst ec_))
  have hco2 : w.cell? ⟨bo, 0, none⟩ = some (.slice (some ⟨go39, 0, none⟩) out.length co39) := by simp [World.cell?, H.out.o]
  obtain ⟨oki, ce, hcl, hM, hcc, hfr, hoki, hH⟩ := Kd.S_elem H.out.S [] (rd place (rd l i)) k0 (by simpa using k1)
  rw [HY.out] at hM
  obtain ⟨ve, rfl, ge⟩ := hM
  have hve := hcc 0 _ rfl
  obtain ⟨Ae, cce, eve⟩ := Kd.R_slice ge
  subst eve
  rw [Nat.add_zero, show ((Kd.slice 3 (Kd.int .i64))).sz = 1 from rfl, Nat.mul_one] at hve
  have HH := Aside0.mk hH
  have GE := Aside0.mk ge
  have HF := Aside0.mk hfr
  have HK := Aside0.mk hoki
  clear hH ge hfr hoki hcc hcl
  have b0 : decide (0 ≤ rd place (rd l i)) = true := decide_eq_true k0
  have b1 : decide (rd place (rd l i) < (out.length : Int)) = true := decide_eq_true k1
  have HB := Aside0.mk H.out.below
  have hk1 : w.frozen? ⟨go39, (rd place (rd l i)).toNat, none⟩ = false := by simpa [Kd.slice] using HF.out 0
  have ON : Aside0 (∀ k, (Value.slice Ae y.length cce).ownBlock = some k → k ≠ bo ∧ k ≠ go39) := ⟨fun k hk => by have := HK.out k (GE.out.1 k hk); exact ⟨this.1.2.1, this.2⟩⟩
  have al1 : ∀ m o, ((w.drewN m).alloc o).cell? ⟨go39, (rd place (rd l i)).toNat, none⟩ = some (.slice Ae y.length cce) := fun m o => (World.cell?_alloc_lt (w.drewN m) o _ (World.block_lt_of_cell? _ _ hve)).trans hve
  have al2 : ∀ m o, ((w.drewN m).alloc o).cell? ⟨bo, 0, none⟩ = some (.slice (some ⟨go39, 0, none⟩) out.length co39) := fun m o => (World.cell?_alloc_lt (w.drewN m) o _ (World.block_lt_of_cell? _ _ hco2)).trans hco2
  have HC1 := Aside0.mk hve
  have HC2 := Aside0.mk hco2
  go_wp2
  go_region_law ((refine Kd.R_append_step (Kd.int .i64) (w0 := w0) w0.heap.size (by rfl) (.tmp 32) (.tmp 34) 24 3 (.int .i64 0) 8 rfl Try.underlying24 info3 rfl (by decide) (by omega) (.slice Ae y.length cce) y i [.int .i64 i] (fun k_ => oki k_ ∨ (k_ ≠ bp ∧ k_ ≠ bo ∧ k_ ≠ bl ∧ k_ ≠ gl) ∧ w.heap.size ≤ k_) (fun _ => False) rfl rfl rfl (fun _ hk => hk.elim) (fun k_ hk => Or.inr (H.out.fresh k_ (by simpa using hk))) (by (with_reducible repeat (first | apply Kd.R_alloc | apply Kd.R_drewN | apply Kd.R_drew)); exact Kd.R_mono GE.out (fun _ hk => .inl hk)) (by repeat (first | (with_reducible first | exact HB.out | apply below_alloc | apply pw_below_drewN | apply below_drew1) | exact HB.out)) (by simpa using HB.out.size) (by omega) ?_; intro v1 w1 ho hb hg hat; obtain ⟨Av, cv, ev⟩ := Kd.R_slice ho; subst ev; have hcb : w1.cell? ⟨bo, 0, none⟩ = some (.slice (some ⟨go39, 0, none⟩) out.length co39) := (World.cell?_of_block (hg.block bo (World.block_lt_of_cell? _ _ HC2.out) (fun e => (ON.out bo e.symm).1 rfl))).trans HC2.out; have hcg : w1.cell? ⟨go39, (rd place (rd l i)).toNat, none⟩ = some (.slice Ae y.length cce) := (World.cell?_of_block (hg.block go39 (World.block_lt_of_cell? _ _ HC1.out) (fun e => (ON.out go39 e.symm).2 rfl))).trans HC1.out; have hfg : w1.frozen? ⟨go39, (rd place (rd l i)).toNat, none⟩ = false := (World.frozen?_of_block (hg.block go39 (World.block_lt_of_cell? _ _ HC1.out) (fun e => (ON.out go39 e.symm).2 rfl))).trans hk1; have HG := Aside0.mk hg; have HO := Aside0.mk ho; have HBB := Aside0.mk hb; clear hg ho hb hat))
  all_goals
    go_end0
    exact ⟨rfl, _, H.out.put k0 k1 HH.out GE.out HK.out HBB.out HG.out (by simpa using HO.out) |> fun q => by simpa using q⟩
set_option maxHeartbeats 4000000 in
theorem put_new (w0 w : World) (bp bo bl gl cq : Nat) (A : Option Addr) (c : Nat) (l : List Int) (vo : Value) (out : List (List Int)) (place : List Int) (i : Int)
    (hr0 : (Kd.int .i64).C w0 A l.length l) (h : St w0 w bp bo bl gl cq A c l vo out place) (i0 : 0 ≤ i) (i1 : i < l.length) (he : rd l i = i) (p1 : i < place.length) (ho5 : out.length < 5864062014805) :
    Calls Try.prog 28 #[.int .i64 i, .pointer (some ⟨bp, 0, none⟩), .pointer (some ⟨bo, 0, none⟩), .pointer (some ⟨bl, 0, none⟩)] w fun e w' => e = .returned (.tuple #[]) ∧ ∃ vo', St w0 w' bp bo bl gl cq A c l vo' (out ++ [[i]]) (place.set i.toNat (out.length : Int)) := by
  have hy : True := trivial
  obtain ⟨ad, e1, hx0⟩ := Kd.at_int hr0 i i0 i1
  subst e1
  have hcp : w.cell? ⟨bp, 0, none⟩ = some (.slice (some ad) l.length c) := by simp [World.cell?, h.p]
  have hcq : w.cell? ⟨bl, 0, none⟩ = some (.slice (some ⟨gl, 0, none⟩) place.length cq) := by simp [World.cell?, h.q]
  have hx1 := (h.below.cell (World.block_lt_of_cell? w0 _ hx0)).trans hx0
  have cb2 : decide (0 ≤ i) = true := decide_eq_true i0
  have cb3 : decide (i < (l.length : Int)) = true := decide_eq_true i1
  have H := Aside0.mk h
  have HY := Aside0.mk hy
  clear h hy
  have cb : (rd l i == i) = true := beq_iff_eq.mpr he
  obtain ⟨hq0, hq1⟩ := Kd.R_celln 0 H.out.R i i0 p1
  obtain ⟨Ao, co, eo⟩ := Kd.S_slice H.out.S
  subst eo
  have hco : w.cell? ⟨bo, 0, none⟩ = some (.slice Ao out.length co) := by simp [World.cell?, H.out.o]
  have hap := H.out.apart
  have n1 : ¬ (gl = bo) := by omega
  have n2 : ¬ (bo = gl) := by omega
  have cb4 : decide (i < (place.length : Int)) = true := decide_eq_true p1
  have HA := Aside0.mk hap
  clear hap
  have hlt := Aside0.mk H.out.lt
  have HB := Aside0.mk H.out.below
  have W1S : Kd.S (Kd.slice 3 (Kd.int .i64)) 24 (w.setCell ⟨gl, i.toNat, none⟩ (.int .i64 (out.length : Int))) w0.heap.size (fun k => k ≠ bp ∧ k ≠ bo ∧ k ≠ bl ∧ k ≠ gl) (.slice Ao out.length co) out := Kd.S_move H.out.S (fun q hq => Below.heap_setCell w _ _ q hq.2.2.2)
  have WS := Aside0.mk W1S
  clear W1S
  have hfo : w.frozen? ⟨bo, 0, none⟩ = false := by simp [World.frozen?, H.out.o]
  have hsz : (w.setCell ⟨gl, i.toNat, none⟩ (.int .i64 (out.length : Int))).heap.size = w.heap.size := by simp [World.setCell]
  have hc1 : (w.setCell ⟨gl, i.toNat, none⟩ (.int .i64 (out.length : Int))).cell? ⟨bo, 0, none⟩ = some (.slice Ao out.length co) := (World.cell?_of_block (Below.heap_setCell w _ _ bo n2)).trans hco
  have hf1 : (w.setCell ⟨gl, i.toNat, none⟩ (.int .i64 (out.length : Int))).frozen? ⟨bo, 0, none⟩ = false := (World.frozen?_of_block (Below.heap_setCell w _ _ bo n2)).trans hfo
  have HS := Aside0.mk hsz
  have HC := Aside0.mk hc1
  have HF1 := Aside0.mk hf1
  clear hsz hc1 hf1
  go_enter Try.func28, Try.ntmps28
  go_wp2_with (at_builtin; refine Kd.S_append (Kd.slice 3 (Kd.int .i64)) (w0 := w0) w0.heap.size rfl (.tmp 17) (.tmp 18) 41 24 (.slice none 0 0) 24 rfl Try.underlying41 info24 rfl (by decide) (by omega) (.slice Ao out.length co) out [] [.slice none 0 0] (fun k => k ≠ bp ∧ k ≠ bo ∧ k ≠ bl ∧ k ≠ gl) (fun _ => False) rfl (by rw [HS.out]; rfl) ⟨_, rfl, Kd.R_nil _ _ _ _ _⟩ (fun _ hk => hk.elim) (fun k_ hk => (H.out.fresh k_ (by simpa [HS.out] using hk)).1) (Kd.S_mono WS.out (fun _ hk => ⟨hk, fun h => h⟩)) (below_set HB.out H.out.base.2.2.2) (by rw [HS.out]; exact HB.out.size) (by omega) ?_; intro v1 w1 ho hb hg hat; obtain ⟨Av, cv, ev⟩ := Kd.S_slice ho; subst ev; have hcb : w1.cell? ⟨bo, 0, none⟩ = some (.slice Ao out.length co) := (World.cell?_of_block (hg.block bo (by rw [HS.out]; exact hlt.out.2.1) (fun e => ((Kd.S_R H.out.S).1 bo e.symm).2.1 rfl))).trans HC.out; have hfb : w1.frozen? ⟨bo, 0, none⟩ = false := (World.frozen?_of_block (hg.block bo (by rw [HS.out]; exact hlt.out.2.1) (fun e => ((Kd.S_R H.out.S).1 bo e.symm).2.1 rfl))).trans HF1.out; have HG := Aside0.mk hg; have HO := Aside0.mk ho; have HBB := Aside0.mk hb; clear hg ho hb hat)
  have HN := H.out.new i0 p1 HBB.out HG.out HO.out
  simp only [List.length_append, List.length_singleton] at HN
  generalize hW : w1.setCell ⟨bo, 0, none⟩ (.slice Av (out.length + 1) cv) = w3 at HN ⊢
  clear hW HG HO HBB HC HF1 HS WS hcb hfb hco hcp hcq hx1 hq0 hq1 hfo H HB hlt HY
  obtain ⟨y, hy⟩ : ∃ y : List Int, y = [] := ⟨_, rfl⟩
  obtain ⟨kk, hkk⟩ : ∃ kk : Int, kk = (out.length : Int) := ⟨_, rfl⟩
  have hrd : rd (place.set i.toNat (out.length : Int)) i = kk := by rw [rd_set i0 p1 i0, if_pos rfl, hkk]
  have hget : (out ++ [[]]).getD kk.toNat [] = y := by rw [hkk, hy]; simp
  have hfin : (out ++ [[]]).set kk.toNat (y ++ [i]) = out ++ [[i]] := by rw [hkk, hy]; simp
  have r1 : i < ((place.set i.toNat (out.length : Int)).length : Int) := by rw [List.length_set]; exact p1
  have k0 : 0 ≤ kk := by omega
  have k1 : kk < ((out ++ [[]]).length : Int) := by rw [List.length_append]; simp; omega
  have hlen : y.length < 17592186044416 := by rw [hy]; simp
  have r0 := i0
  have hvl : (out.length + 1) = (out ++ [([] : List Int)]).length := by simp
  rw [hvl] at HN
  have HFIN := Aside0.mk hfin
  have HY := Aside0.mk hget
  have HRD := Aside0.mk hrd
  clear hfin hget hrd hy hkk hvl
  obtain ⟨o2, ho2⟩ : ∃ o2, o2 = out ++ [([] : List Int)] := ⟨_, rfl⟩
  obtain ⟨p2, hp2⟩ : ∃ p2, p2 = place.set i.toNat (out.length : Int) := ⟨_, rfl⟩
  rw [← ho2] at HN HFIN HY k1
  rw [← hp2] at HN HRD r1
  have HP2 := Aside0.mk hp2
  have H := Aside0.mk HN
  clear hp2 ho2 HN ho5 p1 cb4
  obtain ⟨ad2, e2, hx2⟩ := Kd.at_int (Kd.R_reads' H.out.R).2.2 i r0 r1
  injection e2 with e2
  subst e2
  rw [add_plain, HRD.out] at hx2
  have hcp2 : w3.cell? ⟨bp, 0, none⟩ = some (.slice (some ad) l.length c) := by simp [World.cell?, H.out.p]
  have hcq2 : w3.cell? ⟨bl, 0, none⟩ = some (.slice (some ⟨gl, 0, none⟩) p2.length cq) := by simp [World.cell?, H.out.q]
  have hx12 := (H.out.below.cell (World.block_lt_of_cell? w0 _ hx0)).trans hx0
  go_wp2
  go_quiet (fail)
  rename_i nq
  have hn : 0 < o2.length := by omega
  obtain ⟨go39, co39, eo39, gb39, gl39, cl39, HG39⟩ := Kd.S_form H.out.S hn
  (first | subst eo39 | (injection eo39 with ea_ _ ec_; subst ea_; replace ec_ := ec_.symm; subst ec_))
  have hco2 : w3.cell? ⟨bo, 0, none⟩ = some (.slice (some ⟨go39, 0, none⟩) o2.length co39) := by simp [World.cell?, H.out.o]
  obtain ⟨oki, ce, hcl, hM, hcc, hfr, hoki, hH⟩ := Kd.S_elem H.out.S [] (kk) k0 (by simpa using k1)
  rw [HY.out] at hM
  obtain ⟨ve, rfl, ge⟩ := hM
  have hve := hcc 0 _ rfl
  obtain ⟨Ae, cce, eve⟩ := Kd.R_slice ge
  subst eve
  rw [Nat.add_zero, show ((Kd.slice 3 (Kd.int .i64))).sz = 1 from rfl, Nat.mul_one] at hve
  have HH := Aside0.mk hH
  have GE := Aside0.mk ge
  have HF := Aside0.mk hfr
  have HK := Aside0.mk hoki
  clear hH ge hfr hoki hcc hcl
  have b0 : decide (0 ≤ kk) = true := decide_eq_true k0
  have b1 : decide (kk < (o2.length : Int)) = true := decide_eq_true k1
  have HB := Aside0.mk H.out.below
  have hk1 : w3.frozen? ⟨go39, (kk).toNat, none⟩ = false := by simpa [Kd.slice] using HF.out 0
  have ON : Aside0 (∀ k, (Value.slice Ae y.length cce).ownBlock = some k → k ≠ bo ∧ k ≠ go39) := ⟨fun k hk => by have := HK.out k (GE.out.1 k hk); exact ⟨this.1.2.1, this.2⟩⟩
  have al1 : ∀ m o, ((w3.drewN m).alloc o).cell? ⟨go39, (kk).toNat, none⟩ = some (.slice Ae y.length cce) := fun m o => (World.cell?_alloc_lt (w3.drewN m) o _ (World.block_lt_of_cell? _ _ hve)).trans hve
  have al2 : ∀ m o, ((w3.drewN m).alloc o).cell? ⟨bo, 0, none⟩ = some (.slice (some ⟨go39, 0, none⟩) o2.length co39) := fun m o => (World.cell?_alloc_lt (w3.drewN m) o _ (World.block_lt_of_cell? _ _ hco2)).trans hco2
  have HC1 := Aside0.mk hve
  have HC2 := Aside0.mk hco2
  go_wp2
  go_region_law ((refine Kd.R_append_step (Kd.int .i64) (w0 := w0) w0.heap.size (by rfl) (.tmp 32) (.tmp 34) 24 3 (.int .i64 0) 8 rfl Try.underlying24 info3 rfl (by decide) (by omega) (.slice Ae y.length cce) y i [.int .i64 i] (fun k_ => oki k_ ∨ (k_ ≠ bp ∧ k_ ≠ bo ∧ k_ ≠ bl ∧ k_ ≠ gl) ∧ w3.heap.size ≤ k_) (fun _ => False) rfl rfl rfl (fun _ hk => hk.elim) (fun k_ hk => Or.inr (H.out.fresh k_ (by simpa using hk))) (by (with_reducible repeat (first | apply Kd.R_alloc | apply Kd.R_drewN | apply Kd.R_drew)); exact Kd.R_mono GE.out (fun _ hk => .inl hk)) (by repeat (first | (with_reducible first | exact HB.out | apply below_alloc | apply pw_below_drewN | apply below_drew1) | exact HB.out)) (by simpa using HB.out.size) (by omega) ?_; intro v1 w1 ho hb hg hat; obtain ⟨Av, cv, ev⟩ := Kd.R_slice ho; subst ev; have hcb : w1.cell? ⟨bo, 0, none⟩ = some (.slice (some ⟨go39, 0, none⟩) o2.length co39) := (World.cell?_of_block (hg.block bo (World.block_lt_of_cell? _ _ HC2.out) (fun e => (ON.out bo e.symm).1 rfl))).trans HC2.out; have hcg : w1.cell? ⟨go39, (kk).toNat, none⟩ = some (.slice Ae y.length cce) := (World.cell?_of_block (hg.block go39 (World.block_lt_of_cell? _ _ HC1.out) (fun e => (ON.out go39 e.symm).2 rfl))).trans HC1.out; have hfg : w1.frozen? ⟨go39, (kk).toNat, none⟩ = false := (World.frozen?_of_block (hg.block go39 (World.block_lt_of_cell? _ _ HC1.out) (fun e => (ON.out go39 e.symm).2 rfl))).trans hk1; have HG := Aside0.mk hg; have HO := Aside0.mk ho; have HBB := Aside0.mk hb; clear hg ho hb hat))
  all_goals
    go_end0
    exact ⟨rfl, _, H.out.put k0 k1 HH.out GE.out HK.out HBB.out HG.out (by simpa using HO.out) |> fun q => by rw [HFIN.out, HP2.out] at q; simpa using q⟩
end Go.Proofs.Ytjemjpakgpdonaa.PAll
