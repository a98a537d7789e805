import Derived.Test.YtmocdgcjglmmjaaGreatDoorY2
/-! ContextOrder: the plain law, joined with the walk. -/
namespace Go.Proofs.YtmocdgcjglmmjaaGreatDoor.Cx
open Go.RowKit Go.Proofs.YtmocdgcjglmmjaaGreatDoorW.PrintWords Go.Proofs.YtmocdgcjglmmjaaGreatDoorW.PrintLast Go.Proofs.YtmocdgcjglmmjaaGreatDoorW.PrintMore
attribute [local go_sem] max2_int min2_int max_two min_two max_three min_three max_four min_four   -- for this text's walks alone
set_option linter.unusedVariables false
set_option linter.unusedSimpArgs false

def lexCmp : List Int → List Int → Int
  | [], [] => 0
  | [], _ :: _ => -1
  | _ :: _, [] => 1
  | a :: x, b :: y => if a < b then -1 else if a > b then 1 else lexCmp x y
theorem lexCmp_zero : ∀ (x y : List Int), lexCmp x y = 0 ↔ x = y := by
  intro x
  induction x with
  | nil => intro y; cases y <;> simp [lexCmp]
  | cons a x ih =>
    intro y
    cases y with
    | nil => simp [lexCmp]
    | cons b y =>
      simp only [lexCmp]
      by_cases h1 : a < b
      · rw [if_pos h1]
        constructor
        · intro h; omega
        · intro h; injection h with h2 h3; omega
      · rw [if_neg h1]
        by_cases h2 : a > b
        · rw [if_pos h2]
          constructor
          · intro h; omega
          · intro h; injection h with h3 h4; omega
        · rw [if_neg h2, ih y]
          have : a = b := by omega
          subst this
          simp
theorem drop_cons {l : List Int} {i : Nat} (h : i < l.length) : l.drop i = rd l (i : Int) :: l.drop (i + 1) := by
  rw [List.drop_eq_getElem_cons h]
  congr 1
  unfold rd
  simp [h]
theorem wrap_succ {i n : Nat} (h : i < n) (hn : n ≤ 1000) : wrap64 ((i : Int) + 1) = ((i + 1 : Nat) : Int) := by
  unfold wrap64
  omega
theorem isNaN_f (a : Int) : cmp_isNaN_int.f a = some false := by simp [cmp_isNaN_int.f]
theorem cmp_f (a b : Int) : cmp_Compare_int.f a b = some (if a < b then -1 else if a > b then 1 else 0) := by
  unfold cmp_Compare_int.f
  rw [isNaN_f, isNaN_f]
  simp only [Option.bind_some, Bool.false_eq_true, if_false]
  split
  · rfl
  · split <;> rfl
theorem cmp_loop (x0 x1 : List Int) (h0 : x0.length ≤ 1000) : ∀ (d i k : Nat), x0.length - i = d → i ≤ x0.length → i ≤ x1.length → d + 1 ≤ k → slices_Compare_int_int.l0 k x0 x1 x0 (x0.length : Int) (i : Int) = some (lexCmp (x0.drop i) (x1.drop i)) := by
  intro d
  induction d with
  | zero =>
    intro i k hd hi hi1 hk
    have e : i = x0.length := by omega
    subst e
    match k, hk with
    | k + 1, _ =>
      simp only [slices_Compare_int_int.l0]
      rw [if_neg (by omega), List.drop_of_length_le (Nat.le_refl _)]
      by_cases h1 : x0.length < x1.length
      · rw [if_pos (by omega), drop_cons h1]
        rfl
      · rw [if_neg (by omega), List.drop_of_length_le (by omega)]
        rfl
  | succ d ih =>
    intro i k hd hi hi1 hk
    have hlt : i < x0.length := by omega
    match k, hk with
    | k + 1, hk =>
      simp only [slices_Compare_int_int.l0]
      rw [if_pos (by omega), if_pos (by omega), if_pos (by omega), drop_cons hlt]
      by_cases h1 : i < x1.length
      · rw [if_neg (by omega), if_pos (by omega), drop_cons h1, cmp_f]
        simp only [lexCmp, Option.bind_some]
        by_cases h2 : rd x0 (i : Int) < rd x1 (i : Int)
        · rw [if_pos h2, if_pos h2, if_neg (by omega)]
        · rw [if_neg h2, if_neg h2]
          by_cases h3 : rd x0 (i : Int) > rd x1 (i : Int)
          · rw [if_pos h3, if_pos h3, if_neg (by omega)]
          · rw [if_neg h3, if_neg h3, if_pos rfl, wrap_succ hlt h0]
            exact ih (i + 1) k (by omega) (by omega) (by omega) (by omega)
      · rw [if_pos (by omega), show x1.drop i = [] from List.drop_of_length_le (by omega)]
        rfl
theorem eq_loop (x0 x1 : List Int) (h0 : x0.length ≤ 1000) (hl : x0.length = x1.length) : ∀ (d i k : Nat), x0.length - i = d → i ≤ x0.length → d + 1 ≤ k → slices_Equal_int_int.l0 k x0 x1 (x0.length : Int) (i : Int) = some (decide (x0.drop i = x1.drop i)) := by
  intro d
  induction d with
  | zero =>
    intro i k hd hi hk
    have e : i = x0.length := by omega
    subst e
    match k, hk with
    | k + 1, _ =>
      simp only [slices_Equal_int_int.l0]
      rw [if_neg (by omega), List.drop_of_length_le (Nat.le_refl _), List.drop_of_length_le (by omega)]
      rfl
  | succ d ih =>
    intro i k hd hi hk
    have hlt : i < x0.length := by omega
    match k, hk with
    | k + 1, hk =>
      simp only [slices_Equal_int_int.l0]
      rw [if_pos (by omega), if_pos (by omega), if_pos (by omega), if_pos (by omega), drop_cons hlt, drop_cons (show i < x1.length by omega)]
      by_cases h2 : rd x0 (i : Int) = rd x1 (i : Int)
      · rw [if_pos h2, wrap_succ hlt h0, ih (i + 1) k (by omega) (by omega) (by omega), h2]
        simp
      · rw [if_neg h2]
        simp [h2]
theorem compare_f {x0 x1 : List Int} (h0 : x0.length ≤ 1000) {k : Nat} (hk : x0.length + 1 ≤ k) : context_Compare.f k x0 x1 = some (lexCmp x0 x1) := by
  have := cmp_loop x0 x1 h0 x0.length 0 k (by omega) (by omega) (by omega) hk
  unfold context_Compare.f slices_Compare_int_int.f
  have e : slices_Compare_int_int.l0 k x0 x1 x0 (x0.length : Int) 0 = some (lexCmp x0 x1) := by simpa using this
  rw [e]
  rfl
theorem equal_f {x0 x1 : List Int} (h0 : x0.length ≤ 1000) {k : Nat} (hk : x0.length + 1 ≤ k) : slices_Equal_int_int.f k x0 x1 = some (decide (x0 = x1)) := by
  unfold slices_Equal_int_int.f
  by_cases hl : x0.length = x1.length
  · rw [if_pos (by omega)]
    have := eq_loop x0 x1 h0 hl x0.length 0 k (by omega) (by omega) hk
    simpa using this
  · rw [if_neg (by omega)]
    have : x0 ≠ x1 := fun e => hl (by rw [e])
    simp [this]
theorem wrap_sub {a b : Nat} (h : a ≤ b) (hb : b ≤ 1000) : wrap64 ((b : Int) - (a : Int)) = ((b - a : Nat) : Int) := by
  unfold wrap64
  omega
theorem lexCmp_self : ∀ x : List Int, lexCmp x x = 0 := fun x => (lexCmp_zero x x).2 rfl
theorem lexCmp_swap : ∀ (x y : List Int), lexCmp y x = - lexCmp x y := by
  intro x
  induction x with
  | nil => intro y; cases y <;> simp [lexCmp]
  | cons a x ih =>
    intro y
    cases y with
    | nil => simp [lexCmp]
    | cons b y =>
      simp only [lexCmp]
      by_cases h1 : a < b
      · rw [if_pos h1, if_neg (by omega), if_pos (by omega)]; rfl
      · by_cases h2 : a > b
        · rw [if_pos (by omega), if_neg h1, if_pos h2]
        · rw [if_neg (by omega), if_neg (by omega), if_neg h1, if_neg h2]; exact ih y
theorem lexCmp_range : ∀ (x y : List Int), lexCmp x y = -1 ∨ lexCmp x y = 0 ∨ lexCmp x y = 1 := by
  intro x
  induction x with
  | nil => intro y; cases y <;> simp [lexCmp]
  | cons a x ih =>
    intro y
    cases y with
    | nil => simp [lexCmp]
    | cons b y =>
      simp only [lexCmp]
      split
      · simp
      · split
        · simp
        · exact ih y
theorem lexCmp_trans : ∀ (x y z : List Int), lexCmp x y ≤ 0 → lexCmp y z ≤ 0 → lexCmp x z ≤ 0 ∧ (lexCmp x z = 0 → lexCmp x y = 0 ∧ lexCmp y z = 0) := by
  intro x
  induction x with
  | nil =>
    intro y z h1 h2
    cases z with
    | nil =>
      cases y with
      | nil => simp [lexCmp]
      | cons b y => simp [lexCmp] at h2
    | cons c z => simp [lexCmp]
  | cons a x ih =>
    intro y z h1 h2
    cases y with
    | nil => simp [lexCmp] at h1
    | cons b y =>
      cases z with
      | nil => simp [lexCmp] at h2
      | cons c z =>
        simp only [lexCmp] at h1 h2 ⊢
        by_cases e1 : a < b
        · rw [if_pos e1]
          by_cases e2 : b < c
          · rw [if_pos (by omega)]; simp
          · rw [if_neg e2] at h2 ⊢
            by_cases e3 : b > c
            · rw [if_pos e3] at h2; omega
            · rw [if_pos (by omega)]; simp
        · rw [if_neg e1] at h1 ⊢
          by_cases e4 : a > b
          · rw [if_pos e4] at h1; omega
          · rw [if_neg e4] at h1 ⊢
            by_cases e2 : b < c
            · rw [if_pos (by omega)]; simp
            · rw [if_neg e2] at h2 ⊢
              by_cases e3 : b > c
              · rw [if_pos e3] at h2; omega
              · rw [if_neg e3] at h2 ⊢
                rw [if_neg (by omega), if_neg (by omega)]
                exact ih y z h1 h2
theorem lexCmp_append : ∀ (b a : List Int), a ≠ [] → lexCmp b (b ++ a) = -1 := by
  intro b
  induction b with
  | nil => intro a h; cases a with
    | nil => exact absurd rfl h
    | cons c a => rfl
  | cons d b ih =>
    intro a h
    simp only [List.cons_append, lexCmp]
    rw [if_neg (by omega), if_neg (by omega)]
    exact ih a h
/-- What remains of a context, by its end. -/
def sufB (x0 x1 : List Int) : Bool := if x0.length > x1.length then false else decide (x0 = x1.drop (x1.length - x0.length))
theorem sufB_iff (x y : List Int) : sufB x y = true ↔ x <:+ y := by
  unfold sufB
  rw [List.suffix_iff_eq_drop]
  constructor
  · intro h
    split at h
    · simp at h
    · simpa using h
  · intro h
    have : x.length ≤ y.length := by
      have := congrArg List.length h
      simp at this
      omega
    rw [if_neg (by omega)]
    simpa using h
theorem sufB_trans {x y z : List Int} (h1 : sufB x y = true) (h2 : sufB y z = true) : sufB x z = true := (sufB_iff _ _).2 (((sufB_iff _ _).1 h1).trans ((sufB_iff _ _).1 h2))
theorem sufB_anti {x y : List Int} (h1 : sufB x y = true) (h2 : sufB y x = true) : x = y := ((sufB_iff _ _).1 h1).eq_of_length (Nat.le_antisymm ((sufB_iff _ _).1 h1).length_le ((sufB_iff _ _).1 h2).length_le)
theorem sufB_append (x y : List Int) : sufB y (x ++ y) = true := (sufB_iff _ _).2 (List.suffix_append x y)
theorem sufB_nil (x : List Int) : sufB [] x = true := (sufB_iff _ _).2 (List.nil_suffix)
theorem same_loop (x0 x1 : List Int) (h0 : x0.length ≤ 1000) (hl : x0.length = x1.length) : ∀ (d i k : Nat), x0.length - i = d → i ≤ x0.length → d + 1 ≤ k → dataflowlaw22_sameInts.l0 k x0 x1 (x0.length : Int) (i : Int) = some (decide (x0.drop i = x1.drop i)) := by
  intro d
  induction d with
  | zero =>
    intro i k hd hi hk
    have e : i = x0.length := by omega
    subst e
    match k, hk with
    | k + 1, _ =>
      simp only [dataflowlaw22_sameInts.l0]
      rw [if_neg (by omega), List.drop_of_length_le (Nat.le_refl _), List.drop_of_length_le (by omega)]
      rfl
  | succ d ih =>
    intro i k hd hi hk
    have hlt : i < x0.length := by omega
    match k, hk with
    | k + 1, hk =>
      simp only [dataflowlaw22_sameInts.l0]
      rw [if_pos (by omega), if_pos (by omega), if_pos (by omega), if_pos (by omega), drop_cons hlt, drop_cons (show i < x1.length by omega)]
      by_cases h2 : rd x0 (i : Int) = rd x1 (i : Int)
      · rw [if_pos h2, wrap_succ hlt h0, ih (i + 1) k (by omega) (by omega) (by omega), h2]
        simp
      · rw [if_neg h2]
        simp [h2]
theorem sameInts_f {x0 x1 : List Int} (h0 : x0.length ≤ 1000) {k : Nat} (hk : x0.length + 1 ≤ k) : dataflowlaw22_sameInts.f k x0 x1 = some (decide (x0 = x1)) := by
  unfold dataflowlaw22_sameInts.f
  by_cases hl : x0.length = x1.length
  · rw [if_pos (by omega)]
    have := same_loop x0 x1 h0 hl x0.length 0 k (by omega) (by omega) hk
    simpa using this
  · rw [if_neg (by omega)]
    have : x0 ≠ x1 := fun e => hl (by rw [e])
    simp [this]
theorem prefix_f {x0 x1 : List Int} (h0 : x0.length ≤ 100) (h1 : x1.length ≤ 100) {k : Nat} (hk : 101 ≤ k) : context_Prefix.f k x0 x1 = some (sufB x0 x1) := by
  unfold context_Prefix.f sufB
  rw [if_pos (by omega)]
  by_cases h : x0.length > x1.length
  · rw [if_pos (by omega), if_pos h]
  · rw [if_neg (by omega), if_neg h]
    by_cases h2 : x0.length ≤ 2
    · rw [if_pos (by omega)]
    · rw [if_neg (by omega), wrap_sub (by omega) (by omega), if_pos (by omega), if_pos (by omega), Int.toNat_natCast, equal_f (by omega) (by omega)]
      rfl
theorem j1_true (x0 x1 x2 : List Int) (h0 : x0.length ≤ 20) (h1 : x1.length ≤ 20) (h2 : x2.length ≤ 20) {k : Nat} (hk : 102 ≤ k) : dataflowlaw22_ContextOrder.j1 k x0 x1 x2 (lexCmp x0 x1) false = some true := by
  match k, hk with
  | k + 1, hk =>
    have hpb : context_Prefix.f k x1 (x0 ++ x1) = some true := by rw [prefix_f (by omega) (by simp; omega) (by omega), sufB_append]
    have hpn : context_Prefix.f k ([] : List Int) x0 = some true := by rw [prefix_f (by simp) (by omega) (by omega), sufB_nil]
    have h01 : context_Prefix.f k x0 x1 = some (sufB x0 x1) := prefix_f (by omega) (by omega) (by omega)
    have h12 : context_Prefix.f k x1 x2 = some (sufB x1 x2) := prefix_f (by omega) (by omega) (by omega)
    have h02 : context_Prefix.f k x0 x2 = some (sufB x0 x2) := prefix_f (by omega) (by omega) (by omega)
    have h10 : context_Prefix.f k x1 x0 = some (sufB x1 x0) := prefix_f (by omega) (by omega) (by omega)
    have hcm : context_Compare.f k x1 (x1 ++ x0) = some (lexCmp x1 (x1 ++ x0)) := compare_f (by omega) (by omega)
    have hA : 0 + x0.length < 17592186044416 := by omega
    have hB : x0.length + x1.length < 17592186044416 := by omega
    have hC : 0 + x1.length < 17592186044416 := by omega
    have hD : x1.length + x0.length < 17592186044416 := by omega
    have tail : (if (x0.length : Int) = 0 then (some true) else (some (lexCmp x1 (x1 ++ x0) == (-1)))) = some true := by
      by_cases hz : x0.length = 0
      · rw [if_pos (by omega)]
      · rw [if_neg (by omega), lexCmp_append x1 x0 (by intro e; rw [e] at hz; exact hz rfl)]
        rfl
    simp only [dataflowlaw22_ContextOrder.j1, Option.bind_some, List.nil_append, List.length_nil, if_pos hA, if_pos hB, if_pos hC, if_pos hD, hpb, hpn, h01, h12, h02, h10, hcm, if_true, Bool.false_eq_true, if_false, tail]
    cases e01 : sufB x0 x1
    · simp only [Bool.false_eq_true, if_false]
    · simp only [if_true]
      have ez : sufB x1 x0 = true → lexCmp x0 x1 = 0 := fun e => by rw [sufB_anti e01 e]; exact lexCmp_self _
      cases e12 : sufB x1 x2
      · simp only [Bool.false_eq_true, if_false]
        cases e10 : sufB x1 x0
        · simp only [Bool.false_eq_true, if_false]
        · simp only [if_true]; rw [if_pos (ez e10)]
      · simp only [if_true, sufB_trans e01 e12]
        cases e10 : sufB x1 x0
        · simp only [Bool.false_eq_true, if_false]
        · simp only [if_true]; rw [if_pos (ez e10)]
/-- The plain law. -/
theorem order_true (l0 l1 l2 : List Int) : ∃ k, dataflowlaw22_ContextOrder.f k l0 l1 l2 = some true := by
  refine ⟨201, ?_⟩
  have wake : dataflowlaw22_ContextOrder.j0 201 l0 l1 l2 true = some true := by
    simp [dataflowlaw22_ContextOrder.j0, dataflowlaw22_awake.f]
  unfold dataflowlaw22_ContextOrder.f
  by_cases h0 : l0.length > 20
  · rw [if_pos (by omega)]; exact wake
  rw [if_neg (by omega)]
  by_cases h1 : l1.length > 20
  · rw [if_pos (by omega)]; exact wake
  rw [if_neg (by omega)]
  by_cases h2 : l2.length > 20
  · rw [if_pos (by omega)]; exact wake
  rw [if_neg (by omega)]
  simp only [dataflowlaw22_awake.f, Option.bind_some, Bool.not_true]
  have a : context_Compare.f 200 l0 l1 = some (lexCmp l0 l1) := compare_f (by omega) (by omega)
  have b : context_Compare.f 200 l1 l2 = some (lexCmp l1 l2) := compare_f (by omega) (by omega)
  have c : context_Compare.f 200 l0 l2 = some (lexCmp l0 l2) := compare_f (by omega) (by omega)
  have d : context_Compare.f 200 l1 l0 = some (lexCmp l1 l0) := compare_f (by omega) (by omega)
  have e : dataflowlaw22_sameInts.f 200 l0 l1 = some (decide (l0 = l1)) := sameInts_f (by omega) (by omega)
  have g : dataflowlaw22_ContextOrder.j1 200 l0 l1 l2 (lexCmp l0 l1) false = some true := j1_true l0 l1 l2 (by omega) (by omega) (by omega) (by omega)
  have r1 := lexCmp_range l0 l1
  have neg : lexCmp l1 l0 = wrap64 (- lexCmp l0 l1) := by
    rw [lexCmp_swap l0 l1]; unfold wrap64; omega
  have z : ((lexCmp l0 l1 == 0) != decide (l0 = l1)) = false := by
    by_cases h : l0 = l1
    · rw [(lexCmp_zero l0 l1).2 h, decide_eq_true h]; rfl
    · have : lexCmp l0 l1 ≠ 0 := fun e => h ((lexCmp_zero l0 l1).1 e)
      rw [decide_eq_false h, beq_eq_false_iff_ne.2 this]; rfl
  have tr := lexCmp_trans l0 l1 l2
  simp only [dataflowlaw22_ContextOrder.j0, Bool.false_eq_true, if_false, a, b, c, d, e, Option.bind_some, if_pos neg, z]
  by_cases p : lexCmp l0 l1 ≤ 0
  · rw [if_pos p]
    by_cases q : lexCmp l1 l2 ≤ 0
    · rw [if_pos q]
      obtain ⟨t1, t2⟩ := tr p q
      rw [if_neg (by omega)]
      by_cases s : lexCmp l0 l2 = 0
      · obtain ⟨u1, u2⟩ := t2 s
        rw [if_pos s, if_neg (by omega), decide_eq_false (by omega)]
        exact g
      · rw [if_neg s]; exact g
    · rw [if_neg q]; exact g
  · rw [if_neg p]; exact g
/-- Every call of ContextOrder returns true and changes nothing that was there. -/
theorem dataflowlaw22_ContextOrder.walk (a0 : Option Addr) (len0 cap0 : Nat) (z0 : List Int) (a1 : Option Addr) (len1 cap1 : Nat) (z1 : List Int) (a2 : Option Addr) (len2 cap2 : Nat) (z2 : List Int) (w : World) (hRdy : Aw.Ready w) (w0 : (a0 = none ∧ len0 = 0 ∧ cap0 = 0 ∧ z0 = []) ∨ ∃ x, a0 = some x ∧ len0 ≤ cap0 ∧ cap0 ≤ maxLen ∧ z0.length = cap0 ∧ (∀ i, i < z0.length → w.cell? (x.add i) = some (.int .i64 (z0.getD i 0))) ∧ ∀ n ∈ z0, (Lit.int .i64 n).wf = true) (w1 : (a1 = none ∧ len1 = 0 ∧ cap1 = 0 ∧ z1 = []) ∨ ∃ x, a1 = some x ∧ len1 ≤ cap1 ∧ cap1 ≤ maxLen ∧ z1.length = cap1 ∧ (∀ i, i < z1.length → w.cell? (x.add i) = some (.int .i64 (z1.getD i 0))) ∧ ∀ n ∈ z1, (Lit.int .i64 n).wf = true) (w2 : (a2 = none ∧ len2 = 0 ∧ cap2 = 0 ∧ z2 = []) ∨ ∃ x, a2 = some x ∧ len2 ≤ cap2 ∧ cap2 ≤ maxLen ∧ z2.length = cap2 ∧ (∀ i, i < z2.length → w.cell? (x.add i) = some (.int .i64 (z2.getD i 0))) ∧ ∀ n ∈ z2, (Lit.int .i64 n).wf = true) :
    Calls Tryz.prog 4 #[.slice a0 len0 cap0, .slice a1 len1 cap1, .slice a2 len2 cap2] w fun e w' => e = .returned (.bool true) ∧ Below w.heap.size w w' := by
  obtain ⟨l0, rfl, hr0, hm0, hw0, hc0⟩ := ReadsInt.ofRowC w0
  obtain ⟨l1, rfl, hr1, hm1, hw1, hc1⟩ := ReadsInt.ofRowC w1
  obtain ⟨l2, rfl, hr2, hm2, hw2, hc2⟩ := ReadsInt.ofRowC w2
  obtain ⟨k, h⟩ := order_true l0 l1 l2
  refine (dataflowlaw22_ContextOrder.calls k _ _ l0 _ _ l1 _ _ l2 true w (Kd.C_of_reads (d := (0 : Int)) (h1 := fun _ => rfl) hr0) hc0 (Kd.C_of_reads (d := (0 : Int)) (h1 := fun _ => rfl) hr1) hc1 (Kd.C_of_reads (d := (0 : Int)) (h1 := fun _ => rfl) hr2) hc2 hRdy rfl h).mono ?_
  rintro e w' ⟨rfl, hd⟩
  exact ⟨rfl, hd⟩

end Go.Proofs.YtmocdgcjglmmjaaGreatDoor.Cx
