import Derived.Test.YtjemjpakgpdonaaD1
/-! The plain side of the statement on Classes. -/
namespace Go.Proofs.Ytjemjpakgpdonaa.PAll
open Go.RowKit Go.Proofs.YtjemjpakgpdonaaW.PrintWords Go.Proofs.YtjemjpakgpdonaaW.PrintLast Go.Proofs.YtjemjpakgpdonaaW.PrintMore
set_option linter.unusedVariables false
set_option linter.unusedSimpArgs false

theorem cfind_ev (p : List Int) (x : Int) (hc : chk p = 0) (h0 : 0 ≤ x) (h1 : x < p.length) : Ev (fun k => partition_Find.f k p x) (rd p x, 0) := by
  simp only [partition_Find.f, in_eq, Option.bind_some]
  exact Ev.bind (check_ev p) (ev_pos hc (ev_pos (by simpa using ⟨h0, h1⟩) (ev_pos h0 (ev_pos h1 (ev_some _)))))
/-- A class: not empty, ascending, its members below k and of the class of its first one. -/
structure Cl (l : List Int) (k : Nat) (c : List Int) : Prop where
  pos : 0 < c.length
  mem : ∀ a : Int, 0 ≤ a → a < c.length → 0 ≤ rd c a ∧ rd c a < k ∧ rd l (rd c a) = rd c 0
  asc : ∀ a b : Int, 0 ≤ a → a < b → b < c.length → rd c a < rd c b
structure Cs (l : List Int) (k : Nat) (s : List (List Int) × List Int) : Prop where
  cl : ∀ j : Nat, j < s.1.length → Cl l k (s.1.getD j [])
  up : ∀ j : Nat, j + 1 < s.1.length → rd (s.1.getD j []) 0 < rd (s.1.getD (j + 1) []) 0
  at_ : ∀ r : Int, 0 ≤ r → r < k → rd l r = r → rd (s.1.getD (rd s.2 r).toNat []) 0 = r
  sum : (s.1.map List.length).sum = k
theorem Cl.mono {l c : List Int} {k : Nat} (h : Cl l k c) : Cl l (k + 1) c := ⟨h.pos, fun a a0 a1 => by have := h.mem a a0 a1; exact ⟨this.1, by omega, this.2.2⟩, h.asc⟩
theorem getD_append {α : Type} (l m : List α) (d : α) (j : Nat) : (l ++ m).getD j d = if j < l.length then l.getD j d else m.getD (j - l.length) d := by
  simp only [List.getD_eq_getElem?_getD]
  split
  · rw [List.getElem?_append_left ‹_›]
  · rw [List.getElem?_append_right (by omega)]
theorem getD_set {α : Type} (l : List α) (i : Nat) (v d : α) (j : Nat) (hi : i < l.length) : (l.set i v).getD j d = if j = i then v else l.getD j d := by
  simp only [List.getD_eq_getElem?_getD, List.getElem?_set]
  by_cases h : j = i
  · subst h; simp [hi]
  · rw [if_neg (fun e => h e.symm), if_neg h]
theorem cls_cs (l : List Int) (hv : Valid l) (k : Nat) (hk : k ≤ l.length) : Cs l k (clsF l k) := by
  induction k with
  | zero => exact ⟨fun j hj => by simp [clsF] at hj, fun j hj => by simp [clsF] at hj, fun r r0 r1 => by omega, by simp [clsF]⟩
  | succ k ih =>
    obtain ⟨i1, i2, i3, i4⟩ := cls_inv l hv k (by omega)
    obtain ⟨h1, h2, h3, h4⟩ := ih (by omega)
    simp only [clsF, putF]
    generalize clsF l k = s at *
    obtain ⟨out, place⟩ := s
    simp only at *
    by_cases c : rd l (k : Int) = k
    · rw [if_pos c]
      have hone : Cl l (k + 1) [(k : Int)] := by
        refine ⟨by simp, fun a a0 a1 => ?_, fun a b a0 a1 a2 => by simp at a2; omega⟩
        have : a = 0 := by simp at a1; omega
        subst this
        exact ⟨by simp [rd], by simp [rd]; omega, by simpa [rd] using c⟩
      refine ⟨fun j hj => ?_, fun j hj => ?_, fun r r0 r1 hr => ?_, ?_⟩
      · simp only [getD_append]
        split
        · exact (h1 j ‹_›).mono
        · have : j - out.length = 0 := by simp at hj; omega
          rw [this]
          exact hone
      · simp only [getD_append]
        simp only [List.length_append, List.length_singleton] at hj
        rw [if_pos (by omega)]
        split
        · exact h2 j ‹_›
        · have : j + 1 - out.length = 0 := by omega
          rw [this]
          have hm := (h1 j (by omega)).mem 0 (by omega) (by have := (h1 j (by omega)).pos; omega)
          simpa [rd] using hm.2.1
      · show rd ((out ++ [[(k : Int)]]).getD (rd (place.set ((k : Int)).toNat _) r).toNat []) 0 = r
        rw [rd_set (by omega) (by rw [i1]; omega) r0]
        by_cases e : r = k
        · rw [if_pos e, getD_append, if_neg (by omega), e]
          simp [rd]
        · rw [if_neg e, getD_append]
          obtain ⟨p0, p1⟩ := i4 r r0 (by omega) hr
          rw [if_pos (by omega)]
          exact h3 r r0 (by omega) hr
      · simp [h4]
    · rw [if_neg c]
      have r0 := hv.lo (k : Int) (by omega) (by omega)
      have r1 := hv.hi (k : Int) (by omega) (by omega)
      have r2 := hv.id (k : Int) (by omega) (by omega)
      obtain ⟨p0, p1⟩ := i4 (rd l (k : Int)) r0 (by omega) r2
      have hh := h3 (rd l (k : Int)) r0 (by omega) r2
      have hq : (rd place (rd l (k : Int))).toNat < out.length := by omega
      generalize (rd place (rd l (k : Int))).toNat = q at *
      have hc := h1 q hq
      have hnew : Cl l (k + 1) (out.getD q [] ++ [(k : Int)]) := by
        refine ⟨by simp, fun a a0 a1 => ?_, fun a b a0 a1 a2 => ?_⟩
        · have e0 : rd (out.getD q [] ++ [(k : Int)]) 0 = rd (out.getD q []) 0 := by rw [rd_append (by omega), if_pos (by have := hc.pos; omega)]
          rw [e0, rd_append a0]
          split
          · have := hc.mem a a0 ‹_›
            exact ⟨this.1, by omega, this.2.2⟩
          · have : a - ((out.getD q []).length : Int) = 0 := by simp only [List.length_append, List.length_singleton] at a1; omega
            rw [this, hh]
            exact ⟨by simp [rd], by simp [rd]; omega, by simp [rd]⟩
        · simp only [List.length_append, List.length_singleton] at a2
          rw [rd_append a0, rd_append (by omega), if_pos (by omega)]
          split
          · exact hc.asc a b a0 a1 ‹_›
          · have : b - ((out.getD q []).length : Int) = 0 := by omega
            rw [this]
            have := (hc.mem a a0 (by omega)).2.1
            simpa [rd] using this
      have hhead : ∀ j : Nat, rd ((out.set q (out.getD q [] ++ [(k : Int)])).getD j []) 0 = rd (out.getD j []) 0 := by
        intro j
        rw [getD_set _ _ _ _ _ hq]
        split
        · rename_i e
          rw [e, rd_append (by omega), if_pos (by have := hc.pos; omega)]
        · rfl
      refine ⟨fun j hj => ?_, fun j hj => ?_, fun r a0 a1 hr => ?_, ?_⟩
      · rw [getD_set _ _ _ _ _ hq]
        split
        · exact hnew
        · rw [List.length_set] at hj
          exact (h1 j hj).mono
      · rw [List.length_set] at hj
        rw [hhead, hhead]
        exact h2 j hj
      · show rd ((out.set q _).getD (rd place r).toNat []) 0 = r
        rw [hhead]
        refine h3 r a0 ?_ hr
        by_cases e : r = k
        · rw [e] at hr; exact absurd hr c
        · omega
      · have : ∀ (o : List (List Int)) (q : Nat) (x : Int), q < o.length → ((o.set q (o.getD q [] ++ [x])).map List.length).sum = (o.map List.length).sum + 1 := by
          intro o
          induction o with
          | nil => intro q x h; simp at h
          | cons a o ih =>
            intro q x h
            cases q with
            | zero => simp; omega
            | succ q =>
              have := ih q x (by simpa using h)
              simp only [List.set_cons_succ, List.map_cons, List.sum_cons, List.getD_cons_succ]
              omega
        rw [this out q (k : Int) hq, h4]
theorem Cs.lt {l : List Int} {k : Nat} {s : List (List Int) × List Int} (h : Cs l k s) (d : Nat) : ∀ j : Nat, j + d + 1 < s.1.length → rd (s.1.getD j []) 0 < rd (s.1.getD (j + d + 1) []) 0 := by
  induction d with
  | zero => intro j hj; exact h.up j hj
  | succ d ih => intro j hj; exact Int.lt_trans (ih j (by omega)) (h.up (j + d + 1) (by omega))

def rdB (xs : List Bool) (i : Int) : Bool := xs.getD i.toNat false
theorem rdB_set {l : List Bool} {i j : Int} {v : Bool} (hi : 0 ≤ i) (hl : i < l.length) (hj : 0 ≤ j) : rdB (l.set i.toNat v) j = if j = i then v else rdB l j := by
  unfold rdB
  rw [getD_set _ _ _ _ _ (by omega)]
  by_cases h : j = i
  · rw [if_pos h, if_pos (by omega)]
  · rw [if_neg h, if_neg (by omega)]
section
variable (l : List Int) (hc : chk l = 0) (hlen : l.length ≤ 300)
/-- What may have been seen before member k of class i. -/
def SeenOk (out : List (List Int)) (seen : List Bool) (i k : Int) : Prop :=
  ∀ x : Int, 0 ≤ x → x < l.length → rdB seen x = true → (∃ j : Int, 0 ≤ j ∧ j < i ∧ rd l x = rd (rd_L2 out j) 0) ∨ (rd l x = rd (rd_L2 out i) 0 ∧ ∃ a : Int, 0 ≤ a ∧ a < k ∧ x = rd (rd_L2 out i) a)
/-- How many members lie in the classes before i. -/
def before (out : List (List Int)) (i : Nat) : Nat := ((out.take i).map List.length).sum
theorem before_succ (out : List (List Int)) (i : Nat) (h : i < out.length) : before out (i + 1) = before out i + (out.getD i []).length := by
  unfold before
  rw [List.take_succ_eq_append_getElem h, List.map_append, List.sum_append, List.getD_eq_getElem?_getD, List.getElem?_eq_getElem h]
  rfl
include hc hlen in
theorem classes_go : Ev (fun k => dataflowlaw02_PartitionClasses.l0 k l (clsF l l.length).1 0 (List.replicate l.length false) 0 0) true := by
  have hv := chk_valid.1 hc
  have hle := hv.le
  have hs := cls_cs l hv l.length (Nat.le_refl _)
  have hi := cls_inv l hv l.length (Nat.le_refl _)
  generalize hout : (clsF l l.length).1 = out
  have hcl : ∀ i : Int, 0 ≤ i → i < out.length → Cl l l.length (rd_L2 out i) := by
    intro i i0 i1
    have := hs.cl i.toNat (by rw [hout]; omega)
    rw [hout] at this
    exact this
  have hfew : out.length ≤ l.length := by rw [← hout]; exact hi.few
  have hsh : ∀ i : Int, (rd_L2 out i).length ≤ l.length := by
    intro i
    have := hi.short i.toNat
    rw [hout] at this
    exact this
  have hlt : ∀ i j : Int, 0 ≤ i → i < j → j < out.length → rd (rd_L2 out i) 0 < rd (rd_L2 out j) 0 := by
    intro i j i0 i1 i2
    have := hs.lt (j.toNat - i.toNat - 1) i.toNat (by rw [hout]; omega)
    rw [hout] at this
    rw [show i.toNat + (j.toNat - i.toNat - 1) + 1 = j.toNat by omega] at this
    exact this
  have hsum : before out out.length = l.length := by
    unfold before
    rw [List.take_length, ← hout]
    exact hs.sum
  have outer : ∀ (d : Nat) (i : Int) (seen : List Bool) (n : Int), 0 ≤ i → i + d = out.length → seen.length = l.length → n = before out i.toNat → SeenOk l out seen i 0 →
      Ev (fun k => dataflowlaw02_PartitionClasses.l0 k l out 0 seen n i) true := by
    intro d
    induction d with
    | zero =>
      intro i seen n i0 i1 hl hn hso
      refine ev_unf ?_
      simp only [dataflowlaw02_PartitionClasses.l0]
      refine ev_neg (by omega) (ev_pos (by trivial) (ev_pos ?_ awake_bind))
      rw [hn, show i.toNat = out.length by omega, hsum]
    | succ d ih =>
      intro i seen n i0 i1 hl hn hso
      have hci := hcl i i0 (by omega)
      have hbs := before_succ out i.toNat (by omega)
      have hbi : out.getD i.toNat [] = rd_L2 out i := rfl
      rw [hbi] at hbs
      have hshi := hsh i
      have inner : ∀ (e : Nat) (k : Int) (seen : List Bool) (n : Int), 0 ≤ k → k + e = (rd_L2 out i).length → seen.length = l.length → n = before out i.toNat + k → SeenOk l out seen i k →
          Ev (fun q => dataflowlaw02_PartitionClasses.l1 q l out 0 seen n i k) true := by
        intro e
        induction e with
        | zero =>
          intro k seen n k0 k1 hl hn hso
          refine ev_unf ?_
          simp only [dataflowlaw02_PartitionClasses.l1]
          refine ev_pos i0 (ev_pos (by omega) (ev_neg (by omega) ?_))
          rw [wrap_up i0 (by omega)]
          refine ih (i + 1) seen n (by omega) (by omega) hl (by rw [hn, show (i + 1).toNat = i.toNat + 1 by omega, hbs]; omega) ?_
          intro x x0 x1 hx
          rcases hso x x0 x1 hx with ⟨j, j0, j1, j2⟩ | ⟨a, _⟩
          · exact .inl ⟨j, j0, by omega, j2⟩
          · exact .inl ⟨i, i0, by omega, a⟩
        | succ e ihe =>
          intro k seen n k0 k1 hl hn hso
          obtain ⟨m0, m1, m2⟩ := hci.mem k k0 (by omega)
          have hns : rdB seen (rd (rd_L2 out i) k) = false := by
            rw [Bool.eq_false_iff]
            intro hx
            rcases hso _ m0 m1 hx with ⟨j, j0, j1, j2⟩ | ⟨a, b, b0, b1, b2⟩
            · rw [m2] at j2
              have := hlt j i j0 j1 (by omega)
              omega
            · have := hci.asc b k b0 b1 (by omega)
              omega
          have step : Ev (fun q => dataflowlaw02_PartitionClasses.j3 q l out 0 seen n i k (rd (rd_L2 out i) k) false) true := by
            refine ev_unf ?_
            simp only [dataflowlaw02_PartitionClasses.j3]
            refine ev_neg (by simp) (ev_pos m0 (ev_pos (by omega) (Ev.bind (f := fun k (bt : Int × Int) => _) (cfind_ev l _ hc m0 m1) ?_)))
            refine ev_pos (by trivial) (ev_pos i0 (ev_pos (by omega) (ev_pos (by omega) (ev_pos m2 ?_))))
            rw [wrap_up k0 (by omega), show wrap64 (n + 1) = n + 1 from wrap_up (by omega) (by
              have h5 : before out (i.toNat + 1) ≤ l.length := by
                rw [← hsum]
                unfold before
                rw [List.take_length, ← List.take_append_drop (i.toNat + 1) out, List.map_append, List.sum_append]
                simp [List.take_append]
              omega)]
            refine ihe (k + 1) _ _ (by omega) (by omega) (by rw [List.length_set]; exact hl) (by omega) ?_
            intro x x0 x1 hx
            rw [rdB_set m0 (by omega) x0] at hx
            by_cases q : x = rd (rd_L2 out i) k
            · exact .inr ⟨by rw [q]; exact m2, k, k0, by omega, q⟩
            · rw [if_neg q] at hx
              rcases hso x x0 x1 hx with h | ⟨a, b, b0, b1, b2⟩
              · exact .inl h
              · exact .inr ⟨a, b, b0, by omega, b2⟩
          refine ev_unf ?_
          simp only [dataflowlaw02_PartitionClasses.l1]
          refine ev_pos i0 (ev_pos (by omega) (ev_pos (by omega) (ev_pos k0 (ev_neg (by omega) (ev_neg (by omega) (ev_pos m0 (ev_pos (by omega) (ev_neg ?_ ?_))))))))
          · show ¬ rdB seen _ = true
            rw [hns]; simp
          · by_cases q : k > 0
            · refine ev_pos q ?_
              rw [show wrap64 (k - 1) = k - 1 by unfold wrap64; omega]
              refine ev_pos (by omega) (ev_pos (by omega) ?_)
              have := hci.asc (k - 1) k (by omega) (by omega) (by omega)
              rw [decide_eq_false (by omega)]
              exact step
            · exact ev_neg q step
      have go : Ev (fun q => dataflowlaw02_PartitionClasses.j1 q l out 0 seen n i false) true := by
        refine ev_unf ?_
        simp only [dataflowlaw02_PartitionClasses.j1]
        exact ev_neg (by simp) (inner (rd_L2 out i).length 0 seen n (by omega) (by omega) hl (by omega) hso)
      refine ev_unf ?_
      simp only [dataflowlaw02_PartitionClasses.l0]
      have hp := hci.pos
      refine ev_pos (by omega) (ev_pos i0 (ev_neg (by omega) ?_))
      by_cases q : i > 0
      · refine ev_pos q ?_
        rw [show wrap64 (i - 1) = i - 1 by unfold wrap64; omega]
        have hp2 := (hcl (i - 1) (by omega) (by omega)).pos
        refine ev_pos (by omega) (ev_pos (by omega) (ev_pos (by omega) (ev_pos (by omega) ?_)))
        have := hlt (i - 1) i (by omega) (by omega) (by omega)
        rw [decide_eq_false (by omega)]
        exact go
      · exact ev_neg q go
  refine outer out.length 0 _ 0 (by omega) (by omega) (by simp) (by simp [before]) ?_
  intro x x0 x1 hx
  simp [rdB, List.getD_eq_getElem?_getD, List.getElem?_replicate] at hx
  split at hx <;> simp at hx
end
theorem classes_ev (l : List Int) : Ev (fun k => dataflowlaw02_PartitionClasses.f k l) true := by
  simp only [dataflowlaw02_PartitionClasses.f, partition_Classes.f]
  by_cases c : (l.length : Int) > 300
  · exact ev_pos c awake_bind
  refine ev_neg c ?_
  by_cases d : chk l = 0
  · rw [if_pos d]
    simp only [Option.bind_some]
    refine Ev.bind (rcheck_ev l) (ev_pos d (ev_pos (by omega) (ev_pos (by omega) ?_)))
    simp only [Int.toNat_natCast]
    exact classes_go l d (by omega)
  · rw [if_neg d]
    simp only [Option.bind_some]
    exact Ev.bind (rcheck_ev l) (ev_neg d (Ev.bind (rcheck_ev l) (ev_pos (by trivial) (ev_pos (by simp) awake_bind))))
end Go.Proofs.Ytjemjpakgpdonaa.PAll
