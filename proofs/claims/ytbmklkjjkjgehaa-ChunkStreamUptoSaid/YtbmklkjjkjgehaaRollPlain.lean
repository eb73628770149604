/- Plain facts on products in the field of 2^31 elements: reduction is linear, products are commutative and associative, squaring is additive. -/
import Derived.Test.YtbmklkjjkjgehaaBasis
namespace Go.Proofs.Ytbmklkjjkjgehaa.Plain
/-- one step of reduction: bit i is taken away -/
def redStep (i : Nat) (n : Nat) : Nat := n ^^^ (bif n.testBit i then 2147483657 <<< (i - 31) else 0)
/-- bits 31 + k - 1 down to 31 taken away -/
def redK : Nat → Nat → Nat
  | 0, n => n
  | k + 1, n => redK k (redStep (31 + k) n)
def red (n : Nat) : Nat := redK 33 n
theorem redStep_lin (i : Nat) : Lin (redStep i) := Lin.xor Lin.id (Lin.bit i _)
theorem redK_lin (k : Nat) : Lin (redK k) := by
  induction k with
  | zero => exact Lin.id
  | succ k ih => exact Lin.comp (f := redK k) (g := redStep (31 + k)) ih (redStep_lin _)
theorem red_lin : Lin red := redK_lin 33
theorem redStep_lt (k n : Nat) (h : n < 2 ^ (31 + k + 1)) : redStep (31 + k) n < 2 ^ (31 + k) := by
  unfold redStep
  cases ht : n.testBit (31 + k) with
  | false => simp only [cond_false, Nat.xor_zero]; exact lt_of_top h ht
  | true =>
    simp only [cond_true]
    have e : (31 + k) - 31 = k := by omega
    rw [e]
    have hp : (2147483657 : Nat) = 2 ^ 31 ^^^ 9 := by decide
    rw [hp, Nat.shiftLeft_xor_distrib]
    have h1 : (2 ^ 31) <<< k = 2 ^ (31 + k) := by rw [Nat.shiftLeft_eq, ← Nat.pow_add]
    have h2 : 9 <<< k < 2 ^ (31 + k) := by
      rw [Nat.shiftLeft_eq, Nat.pow_add]
      exact Nat.mul_lt_mul_of_pos_right (by decide) (Nat.two_pow_pos k)
    rw [h1, ← Nat.xor_assoc]
    exact Nat.xor_lt_two_pow (xor_top h ht) h2
theorem redK_lt (k n : Nat) (h : n < 2 ^ (31 + k)) : redK k n < 2 ^ 31 := by
  induction k generalizing n with
  | zero => exact h
  | succ k ih => exact ih _ (redStep_lt k n h)
theorem red_lt (n : Nat) (h : n < 2 ^ 64) : red n < 2 ^ 31 := redK_lt 33 n h
theorem redK_small (k n : Nat) (h : n < 2 ^ 31) : redK k n = n := by
  induction k with
  | zero => rfl
  | succ k ih =>
    have : n.testBit (31 + k) = false := Nat.testBit_lt_two_pow (Nat.lt_of_lt_of_le h (Nat.pow_le_pow_right (by decide) (by omega)))
    simp only [redK, redStep, this, cond_false, Nat.xor_zero, ih]
theorem red_small (n : Nat) (h : n < 2 ^ 31) : red n = n := redK_small 33 n h
/-- the product without carries: the bits of b below k -/
def cmul : Nat → Nat → Nat → Nat
  | 0, _, _ => 0
  | k + 1, a, b => cmul k a b ^^^ (bif b.testBit k then a <<< k else 0)
theorem cmul_lin_left (k b : Nat) : Lin (fun a => cmul k a b) := by
  induction k with
  | zero => intro a c; simp [cmul]
  | succ k ih =>
    intro a c
    have h := ih a c
    simp only at h
    show cmul k (a ^^^ c) b ^^^ (bif b.testBit k then (a ^^^ c) <<< k else 0) = (cmul k a b ^^^ (bif b.testBit k then a <<< k else 0)) ^^^ (cmul k c b ^^^ (bif b.testBit k then c <<< k else 0))
    rw [h]
    cases b.testBit k
    · simp
    · simp only [cond_true]; rw [Nat.shiftLeft_xor_distrib]; ac_rfl
theorem cmul_lin_right (k a : Nat) : Lin (fun b => cmul k a b) := by
  induction k with
  | zero => intro a c; simp [cmul]
  | succ k ih => exact Lin.xor ih (Lin.bit k _)
theorem cmul_lt (k a b : Nat) (ha : a < 2 ^ 32) (hk : k ≤ 32) : cmul k a b < 2 ^ 64 := by
  induction k with
  | zero => simp [cmul]
  | succ k ih =>
    have h2 : (bif b.testBit k then a <<< k else 0) < 2 ^ 64 := by
      cases b.testBit k
      · simp
      · simp only [cond_true, Nat.shiftLeft_eq]
        have hk2 : 2 ^ k ≤ 2 ^ 31 := Nat.pow_le_pow_right (by decide) (by omega)
        calc a * 2 ^ k < 2 ^ 32 * 2 ^ k := Nat.mul_lt_mul_of_pos_right ha (Nat.two_pow_pos k)
          _ ≤ 2 ^ 32 * 2 ^ 31 := Nat.mul_le_mul_left _ hk2
          _ ≤ 2 ^ 64 := by decide
    exact Nat.xor_lt_two_pow (ih (by omega)) h2
def times (a b : Nat) : Nat := red (cmul 32 a b)
theorem times_lin_left (b : Nat) : Lin (fun a => times a b) := Lin.comp (f := red) (g := fun a => cmul 32 a b) red_lin (cmul_lin_left 32 b)
theorem times_lin_right (a : Nat) : Lin (fun b => times a b) := Lin.comp (f := red) (g := fun b => cmul 32 a b) red_lin (cmul_lin_right 32 a)
theorem times_lt (a b : Nat) (ha : a < 2 ^ 32) : times a b < 2 ^ 31 := red_lt _ (cmul_lt 32 a b ha (by decide))
/-- the powers of x -/
def pwL : Nat → Nat → List Nat
  | 0, _ => []
  | n + 1, x => x :: pwL n (red (x <<< 1))
def pw (m : Nat) : Nat := (pwL 125 1).getD m 0
def basisProd : Bool := (List.range 32).all fun i => (List.range 32).all fun j => times (2 ^ i) (2 ^ j) == pw (i + j)
def basisNext : Bool := (List.range 63).all fun m => (List.range 32).all fun k => times (pw m) (2 ^ k) == pw (m + k)
def basisBack : Bool := (List.range 63).all fun m => (List.range 32).all fun k => times (2 ^ k) (pw m) == pw (m + k)
theorem basisProd_true : basisProd = true := by decide +kernel
theorem basisNext_true : basisNext = true := by decide +kernel
theorem basisBack_true : basisBack = true := by decide +kernel
theorem times_pow (i j : Nat) (hi : i < 32) (hj : j < 32) : times (2 ^ i) (2 ^ j) = pw (i + j) := by
  have h := basisProd_true
  simp only [basisProd, List.all_eq_true, List.mem_range, beq_iff_eq] at h
  exact h i hi j hj
theorem times_pw (m k : Nat) (hm : m < 63) (hk : k < 32) : times (pw m) (2 ^ k) = pw (m + k) := by
  have h := basisNext_true
  simp only [basisNext, List.all_eq_true, List.mem_range, beq_iff_eq] at h
  exact h m hm k hk
theorem times_pw' (m k : Nat) (hm : m < 63) (hk : k < 32) : times (2 ^ k) (pw m) = pw (m + k) := by
  have h := basisBack_true
  simp only [basisBack, List.all_eq_true, List.mem_range, beq_iff_eq] at h
  exact h m hm k hk
theorem times_comm (a b : Nat) (ha : a < 2 ^ 32) (hb : b < 2 ^ 32) : times a b = times b a := by
  refine lin_ext (f := fun x => times x b) (g := fun x => times b x) (times_lin_left b) (times_lin_right b) 32 (fun i hi => ?_) a ha
  refine lin_ext (f := fun x => times (2 ^ i) x) (g := fun x => times x (2 ^ i)) (times_lin_right _) (times_lin_left _) 32 (fun j hj => ?_) b hb
  rw [times_pow i j hi hj, times_pow j i hj hi, Nat.add_comm]
theorem times_assoc (a b c : Nat) (ha : a < 2 ^ 32) (hb : b < 2 ^ 32) (hc : c < 2 ^ 32) : times (times a b) c = times a (times b c) := by
  refine lin_ext (f := fun x => times (times x b) c) (g := fun x => times x (times b c)) (Lin.comp (f := fun x => times x c) (g := fun x => times x b) (times_lin_left c) (times_lin_left b)) (times_lin_left _) 32 (fun i hi => ?_) a ha
  refine lin_ext (f := fun x => times (times (2 ^ i) x) c) (g := fun x => times (2 ^ i) (times x c)) (Lin.comp (f := fun x => times x c) (g := fun x => times (2 ^ i) x) (times_lin_left c) (times_lin_right _)) (Lin.comp (f := fun x => times (2 ^ i) x) (g := fun x => times x c) (times_lin_right _) (times_lin_left c)) 32 (fun j hj => ?_) b hb
  refine lin_ext (f := fun x => times (times (2 ^ i) (2 ^ j)) x) (g := fun x => times (2 ^ i) (times (2 ^ j) x)) (times_lin_right _) (Lin.comp (f := fun x => times (2 ^ i) x) (g := fun x => times (2 ^ j) x) (times_lin_right _) (times_lin_right _)) 32 (fun k hk => ?_) c hc
  rw [times_pow i j hi hj, times_pow j k hj hk, times_pw _ _ (by omega) hk, times_pw' _ _ (by omega) hi]
  congr 1; omega
theorem cmul_pow (k a i : Nat) (hi : i < k) : cmul k a (2 ^ i) = a <<< i := by
  induction k with
  | zero => omega
  | succ k ih =>
    show cmul k a (2 ^ i) ^^^ (bif (2 ^ i).testBit k then a <<< k else 0) = a <<< i
    by_cases e : i = k
    · subst e
      have hz : ∀ j, j ≤ i → cmul j a (2 ^ i) = 0 := by
        intro j hj
        induction j with
        | zero => rfl
        | succ j ihj =>
          show cmul j a (2 ^ i) ^^^ (bif (2 ^ i).testBit j then a <<< j else 0) = 0
          have : (2 ^ i).testBit j = false := by rw [Nat.testBit_two_pow]; simp; omega
          rw [ihj (by omega), this]; simp
      rw [hz i (Nat.le_refl _)]
      simp
    · have : (2 ^ i).testBit k = false := by rw [Nat.testBit_two_pow]; simp; omega
      rw [ih (by omega), this]; simp
theorem times_one (a : Nat) : times a 1 = red a := by
  have := cmul_pow 32 a 0 (by decide)
  unfold times
  rw [show (1 : Nat) = 2 ^ 0 from rfl, this]
  rfl
theorem one_lt (a : Nat) (ha : a < 2 ^ 32) : times a 1 < 2 ^ 31 := times_lt a 1 ha
theorem times_red (a b : Nat) (ha : a < 2 ^ 32) (hb : b < 2 ^ 32) : times (times a 1) b = times a b := by
  rw [times_assoc a 1 b ha (by decide) hb, times_comm 1 b (by decide) hb, times_one]
  -- the product with a reduced factor
  refine lin_ext (f := fun x => times a (red x)) (g := fun x => times a x) (Lin.comp (f := fun x => times a x) (g := red) (times_lin_right a) red_lin) (times_lin_right a) 32 (fun j hj => ?_) b hb
  refine lin_ext (f := fun x => times x (red (2 ^ j))) (g := fun x => times x (2 ^ j)) (times_lin_left _) (times_lin_left _) 32 (fun i hi => ?_) a ha
  rw [times_pow i j hi hj]
  have hj' : red (2 ^ j) = pw j := by
    have h := times_pow j 0 hj (by decide)
    rw [show (2 : Nat) ^ 0 = 1 from rfl, times_one] at h
    exact h
  rw [hj', times_pw' j i (by omega) hi, Nat.add_comm]
theorem times_sq_xor (a b : Nat) (ha : a < 2 ^ 32) (hb : b < 2 ^ 32) : times (a ^^^ b) (a ^^^ b) = times a a ^^^ times b b := by
  have h1 : times (a ^^^ b) (a ^^^ b) = times a (a ^^^ b) ^^^ times b (a ^^^ b) := times_lin_left _ a b
  have h2 : times a (a ^^^ b) = times a a ^^^ times a b := times_lin_right a a b
  have h3 : times b (a ^^^ b) = times b a ^^^ times b b := times_lin_right b a b
  rw [h1, h2, h3, times_comm b a hb ha]
  have : (times a a ^^^ times a b) ^^^ (times a b ^^^ times b b) = times a a ^^^ ((times a b ^^^ times a b) ^^^ times b b) := by ac_rfl
  rw [this, Nat.xor_self, Nat.zero_xor]
/-- squared n times -/
def sqN : Nat → Nat → Nat
  | 0, x => x
  | n + 1, x => sqN n (times x x)
theorem sqN_lt (n x : Nat) (h : x < 2 ^ 31) : sqN n x < 2 ^ 31 := by
  induction n generalizing x with
  | zero => exact h
  | succ n ih => exact ih _ (times_lt _ _ (Nat.lt_of_lt_of_le h (by decide)))
theorem sqN_xor (n a b : Nat) (ha : a < 2 ^ 31) (hb : b < 2 ^ 31) : sqN n (a ^^^ b) = sqN n a ^^^ sqN n b := by
  induction n generalizing a b with
  | zero => rfl
  | succ n ih =>
    have ha' : a < 2 ^ 32 := Nat.lt_of_lt_of_le ha (by decide)
    have hb' : b < 2 ^ 32 := Nat.lt_of_lt_of_le hb (by decide)
    show sqN n (times (a ^^^ b) (a ^^^ b)) = _
    rw [times_sq_xor a b ha' hb', ih _ _ (times_lt _ _ ha') (times_lt _ _ hb')]
    rfl
def basisFrob : Bool := (List.range 31).all fun i => sqN 31 (2 ^ i) == 2 ^ i
theorem basisFrob_true : basisFrob = true := by decide +kernel
theorem sqN_31 (x : Nat) (h : x < 2 ^ 31) : sqN 31 x = x := by
  have hb := basisFrob_true
  simp only [basisFrob, List.all_eq_true, List.mem_range, beq_iff_eq] at hb
  have : ∀ k, k ≤ 31 → ∀ x, x < 2 ^ k → sqN 31 x = x := by
    intro k
    induction k with
    | zero =>
      intro _ x hx
      have : x = 0 := by omega
      subst this
      have := sqN_xor 31 0 0 (by decide) (by decide)
      simpa using this
    | succ k ih =>
      intro hk x hx
      have h31 : x < 2 ^ 31 := Nat.lt_of_lt_of_le hx (Nat.pow_le_pow_right (by decide) hk)
      cases ht : x.testBit k with
      | false => exact ih (by omega) x (lt_of_top hx ht)
      | true =>
        have hl := xor_top hx ht
        have hk2 : 2 ^ k < 2 ^ 31 := Nat.pow_lt_pow_right (by decide) (by omega)
        have e : x = (x ^^^ 2 ^ k) ^^^ 2 ^ k := by rw [Nat.xor_assoc, Nat.xor_self, Nat.xor_zero]
        have h1 := sqN_xor 31 (x ^^^ 2 ^ k) (2 ^ k) (Nat.lt_trans hl hk2) hk2
        rw [← e, ih (by omega) _ hl, hb k (by omega), ← e] at h1
        exact h1
  exact this 31 (Nat.le_refl _) x h
end Go.Proofs.Ytbmklkjjkjgehaa.Plain
