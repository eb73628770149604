/- Plain facts: how many bits of a word are 1, as math/bits counts them. -/
import Derived.Test.YthfjonicolhjnaaBloomPlain2
namespace Go.Proofs.Ythfjonicolhjnaa
open Go.RowKit Plain
namespace Plain
def rep (c : Nat) : Nat → Nat
  | 0 => 0
  | k + 1 => c + 256 * rep c k
theorem land_split (a r c m : Nat) (ha : a < 256) (hc : c < 256) : (a + 256 * r) &&& (c + 256 * m) = (a &&& c) + 256 * (r &&& m) := by
  have h1 : ((a + 256 * r) &&& (c + 256 * m)) % 2 ^ 8 = a &&& c := by
    rw [Nat.and_mod_two_pow]
    congr 1 <;> omega
  have h2 : ((a + 256 * r) &&& (c + 256 * m)) / 2 ^ 8 = r &&& m := by
    rw [← Nat.shiftRight_eq_div_pow, Nat.shiftRight_and_distrib, Nat.shiftRight_eq_div_pow, Nat.shiftRight_eq_div_pow]
    congr 1 <;> omega
  have := Nat.div_add_mod ((a + 256 * r) &&& (c + 256 * m)) (2 ^ 8)
  rw [h1, h2] at this
  omega
def f1 (k x : Nat) : Nat := (x / 2 &&& rep 85 k) + (x &&& rep 85 k)
def f2 (k x : Nat) : Nat := (x / 4 &&& rep 51 k) + (x &&& rep 51 k)
def f3 (k x : Nat) : Nat := (x / 16 + x) &&& rep 15 k
def g1 (a : Nat) : Nat := (a / 2 &&& 85) + (a &&& 85)
def g2 (a : Nat) : Nat := (a / 4 &&& 51) + (a &&& 51)
def pop (b : Nat) : Nat := (g2 (g1 b) / 16 + g2 (g1 b)) % 16
theorem m85 : ∀ x, x < 128 → ∀ y, y < 2 → (x + 128 * y) &&& 85 = x &&& 85 := by decide +kernel
theorem m51 : ∀ x, x < 64 → ∀ y, y < 4 → (x + 64 * y) &&& 51 = x &&& 51 := by decide +kernel
theorem g_facts : ∀ b, b < 256 → g1 b < 256 ∧ g2 (g1 b) ≤ 68 ∧ g2 (g1 b) % 16 ≤ 4 ∧ pop b ≤ 8 := by decide +kernel
theorem f1_step (a r k : Nat) (ha : a < 256) : f1 (k + 1) (a + 256 * r) = g1 a + 256 * f1 k r := by
  have e : (a + 256 * r) / 2 = (a / 2 + 128 * (r % 2)) + 256 * (r / 2) := by omega
  have h := m85 (a / 2) (by omega) (r % 2) (by omega)
  unfold f1 g1
  rw [e, rep, land_split _ _ _ _ (by omega) (by omega), land_split _ _ _ _ ha (by omega), h]
  omega
theorem f2_step (a r k : Nat) (ha : a < 256) : f2 (k + 1) (a + 256 * r) = g2 a + 256 * f2 k r := by
  have e : (a + 256 * r) / 4 = (a / 4 + 64 * (r % 4)) + 256 * (r / 4) := by omega
  have h := m51 (a / 4) (by omega) (r % 4) (by omega)
  unfold f2 g2
  rw [e, rep, land_split _ _ _ _ (by omega) (by omega), land_split _ _ _ _ ha (by omega), h]
  omega
theorem and15 (x : Nat) : x &&& 15 = x % 16 := Nat.and_two_pow_sub_one_eq_mod x 4
theorem f3_step (a r k : Nat) (ha : a ≤ 68) (hr : r % 16 ≤ 4) : f3 (k + 1) (a + 256 * r) = (a / 16 + a) % 16 + 256 * f3 k r := by
  have e : (a + 256 * r) / 16 + (a + 256 * r) = (a / 16 + 16 * (r % 16) + a) + 256 * (r / 16 + r) := by omega
  unfold f3
  rw [e, rep, land_split _ _ _ _ (by omega) (by omega), and15]
  omega
/-- how many bits of the k lowest bytes are 1 -/
def ones : Nat → Nat → Nat
  | 0, _ => 0
  | k + 1, x => pop (x % 256) + ones k (x / 256)
theorem f123 : ∀ k x, x < 256 ^ k → f2 k (f1 k x) % 16 ≤ 4 ∧ (k = 0 → f3 k (f2 k (f1 k x)) = 0) ∧ (∀ j, k = j + 1 → f3 k (f2 k (f1 k x)) = pop (x % 256) + 256 * f3 j (f2 j (f1 j (x / 256))))
  | 0, x, _ => by
    refine ⟨by simp [f2, f1, rep], fun _ => by simp [f3, rep], fun j h => by omega⟩
  | k + 1, x, hx => by
    have hb : x % 256 < 256 := Nat.mod_lt _ (by omega)
    obtain ⟨b1, b2, b3, b4⟩ := g_facts (x % 256) hb
    obtain ⟨ih, _, _⟩ := f123 k (x / 256) (by rw [Nat.pow_succ] at hx; omega)
    have ex : x = x % 256 + 256 * (x / 256) := by omega
    have e2 : f2 (k + 1) (f1 (k + 1) x) = g2 (g1 (x % 256)) + 256 * f2 k (f1 k (x / 256)) := by
      have h1 := f1_step (x % 256) (x / 256) k hb
      rw [← ex] at h1
      rw [h1, f2_step _ _ _ b1]
    refine ⟨by rw [e2]; omega, fun h => by omega, fun j h => ?_⟩
    obtain rfl : k = j := by omega
    rw [e2, f3_step _ _ _ b2 ih]
    rfl
theorem f3_eq (x : Nat) (hx : x < 256 ^ 8) : ∃ p0 p1 p2 p3 p4 p5 p6 p7, p0 ≤ 8 ∧ p1 ≤ 8 ∧ p2 ≤ 8 ∧ p3 ≤ 8 ∧ p4 ≤ 8 ∧ p5 ≤ 8 ∧ p6 ≤ 8 ∧ p7 ≤ 8 ∧
    f3 8 (f2 8 (f1 8 x)) = p0 + 256 * (p1 + 256 * (p2 + 256 * (p3 + 256 * (p4 + 256 * (p5 + 256 * (p6 + 256 * p7)))))) ∧ ones 8 x = p0 + p1 + p2 + p3 + p4 + p5 + p6 + p7 := by
  have hp : ∀ y, pop (y % 256) ≤ 8 := fun y => (g_facts _ (Nat.mod_lt _ (by omega))).2.2.2
  refine ⟨_, _, _, _, _, _, _, _, hp x, hp (x / 256), hp (x / 256 / 256), hp (x / 256 / 256 / 256), hp (x / 256 / 256 / 256 / 256), hp (x / 256 / 256 / 256 / 256 / 256), hp (x / 256 / 256 / 256 / 256 / 256 / 256), hp (x / 256 / 256 / 256 / 256 / 256 / 256 / 256), ?_, ?_⟩
  · have q8 := (f123 0 (x / 256 / 256 / 256 / 256 / 256 / 256 / 256 / 256) (by omega)).2.1 rfl
    have q7 := ((f123 1 (x / 256 / 256 / 256 / 256 / 256 / 256 / 256) (by omega)).2.2 0 rfl).trans (congrArg (fun t => pop ((x / 256 / 256 / 256 / 256 / 256 / 256 / 256) % 256) + 256 * t) q8)
    have q6 := ((f123 2 (x / 256 / 256 / 256 / 256 / 256 / 256) (by omega)).2.2 1 rfl).trans (congrArg (fun t => pop ((x / 256 / 256 / 256 / 256 / 256 / 256) % 256) + 256 * t) q7)
    have q5 := ((f123 3 (x / 256 / 256 / 256 / 256 / 256) (by omega)).2.2 2 rfl).trans (congrArg (fun t => pop ((x / 256 / 256 / 256 / 256 / 256) % 256) + 256 * t) q6)
    have q4 := ((f123 4 (x / 256 / 256 / 256 / 256) (by omega)).2.2 3 rfl).trans (congrArg (fun t => pop ((x / 256 / 256 / 256 / 256) % 256) + 256 * t) q5)
    have q3 := ((f123 5 (x / 256 / 256 / 256) (by omega)).2.2 4 rfl).trans (congrArg (fun t => pop ((x / 256 / 256 / 256) % 256) + 256 * t) q4)
    have q2 := ((f123 6 (x / 256 / 256) (by omega)).2.2 5 rfl).trans (congrArg (fun t => pop ((x / 256 / 256) % 256) + 256 * t) q3)
    have q1 := ((f123 7 (x / 256) (by omega)).2.2 6 rfl).trans (congrArg (fun t => pop ((x / 256) % 256) + 256 * t) q2)
    have q0 := ((f123 8 x hx).2.2 7 rfl).trans (congrArg (fun t => pop (x % 256) + 256 * t) q1)
    exact q0
  · simp only [ones]
    omega
def fold64 (y : Nat) : Nat := ((y + y / 256) + (y + y / 256) / 65536) + ((y + y / 256) + (y + y / 256) / 65536) / 4294967296
theorem div256 (a r : Nat) (h : a < 256) : (a + 256 * r) / 256 = r := by omega
theorem div65536 (a b r : Nat) (h : a < 256) (h2 : b < 256) : (a + 256 * (b + 256 * r)) / 65536 = r := by omega
theorem div32 (a b c d r : Nat) (h : a < 256) (h2 : b < 256) (h3 : c < 256) (h4 : d < 256) : (a + 256 * (b + 256 * (c + 256 * (d + 256 * r)))) / 4294967296 = r := by omega
theorem mod128 (a r : Nat) (h : a < 128) : (a + 256 * r) % 128 = a := by omega
theorem add_digits (a b r s : Nat) : (a + 256 * r) + (b + 256 * s) = (a + b) + 256 * (r + s) := by omega
theorem low_lt (a r n : Nat) (h : a < 256) (hr : r < n) : a + 256 * r < 256 * n := by omega
theorem fold_eq (p0 p1 p2 p3 p4 p5 p6 p7 : Nat) (h0 : p0 ≤ 8) (h1 : p1 ≤ 8) (h2 : p2 ≤ 8) (h3 : p3 ≤ 8) (h4 : p4 ≤ 8) (h5 : p5 ≤ 8) (h6 : p6 ≤ 8) (h7 : p7 ≤ 8) :
    ∀ y, y = p0 + 256 * (p1 + 256 * (p2 + 256 * (p3 + 256 * (p4 + 256 * (p5 + 256 * (p6 + 256 * p7)))))) →
    y < 2 ^ 60 ∧ y + y / 256 < 2 ^ 61 ∧ (y + y / 256) + (y + y / 256) / 65536 < 2 ^ 62 ∧ fold64 y < 2 ^ 63 ∧ fold64 y % 128 = p0 + p1 + p2 + p3 + p4 + p5 + p6 + p7 := by
  have l0 : p0 < 256 := by omega
  have l1 : p1 < 256 := by omega
  have l2 : p2 < 256 := by omega
  have l3 : p3 < 256 := by omega
  have l4 : p4 < 256 := by omega
  have l5 : p5 < 256 := by omega
  have l6 : p6 < 256 := by omega
  have l7 : p7 < 9 := by omega
  have l01 : p0 + p1 < 256 := by omega
  have l12 : p1 + p2 < 256 := by omega
  have a0 : p0 + p1 + (p2 + p3) < 256 := by omega
  have a1 : p1 + p2 + (p3 + p4) < 256 := by omega
  have a2 : p2 + p3 + (p4 + p5) < 256 := by omega
  have a3 : p3 + p4 + (p5 + p6) < 256 := by omega
  have aa : p0 + p1 + (p2 + p3) + (p4 + p5 + (p6 + p7)) < 128 := by omega
  have ab : p0 + p1 + (p2 + p3) + (p4 + p5 + (p6 + p7)) = p0 + p1 + p2 + p3 + p4 + p5 + p6 + p7 := by omega
  have yb : p0 + 256 * (p1 + 256 * (p2 + 256 * (p3 + 256 * (p4 + 256 * (p5 + 256 * (p6 + 256 * p7)))))) < 256 * (256 * (256 * (256 * (256 * (256 * (256 * 9)))))) :=
    low_lt _ _ _ l0 (low_lt _ _ _ l1 (low_lt _ _ _ l2 (low_lt _ _ _ l3 (low_lt _ _ _ l4 (low_lt _ _ _ l5 (low_lt _ _ _ l6 l7))))))
  have yb2 : ∀ y, y < 256 * (256 * (256 * (256 * (256 * (256 * (256 * 9)))))) → y < 2 ^ 60 := fun y h => by clear yb; omega
  have zb : ∀ y, y < 2 ^ 60 → y + y / 256 < 2 ^ 61 := fun y h => by have := Nat.div_le_self y 256; clear yb; omega
  have ub : ∀ y, y < 2 ^ 61 → y + y / 65536 < 2 ^ 62 := fun y h => by have := Nat.div_le_self y 65536; clear yb; omega
  have vb : ∀ y, y < 2 ^ 62 → y + y / 4294967296 < 2 ^ 63 := fun y h => by have := Nat.div_le_self y 4294967296; clear yb; omega
  intro y hy
  have y60 : y < 2 ^ 60 := yb2 y (by rw [hy]; exact yb)
  have z61 := zb y y60
  have u62 := ub _ z61
  have v63 := vb _ u62
  refine ⟨y60, z61, u62, v63, ?_⟩
  clear yb yb2 zb ub vb z61 u62 v63 y60
  have e1 : y / 256 = p1 + 256 * (p2 + 256 * (p3 + 256 * (p4 + 256 * (p5 + 256 * (p6 + 256 * p7))))) := by rw [hy]; exact div256 _ _ l0
  have ez : y + y / 256 = (p0 + p1) + 256 * ((p1 + p2) + 256 * ((p2 + p3) + 256 * ((p3 + p4) + 256 * ((p4 + p5) + 256 * ((p5 + p6) + 256 * (p6 + p7 + 256 * p7)))))) := by
    rw [e1, hy, add_digits, add_digits, add_digits, add_digits, add_digits, add_digits, Nat.add_right_comm p6 (256 * p7) p7]
  unfold fold64
  rw [ez]
  rw [div65536 _ _ _ l01 l12, add_digits, add_digits, add_digits, add_digits, add_digits, div32 _ _ _ _ _ a0 a1 a2 a3, add_digits, mod128 _ _ aa]
  exact ab
theorem count_eq (x : Nat) (hx : x < 256 ^ 8) : f3 8 (f2 8 (f1 8 x)) < 2 ^ 60 ∧ (f3 8 (f2 8 (f1 8 x)) + f3 8 (f2 8 (f1 8 x)) / 256) < 2 ^ 61 ∧ (f3 8 (f2 8 (f1 8 x)) + f3 8 (f2 8 (f1 8 x)) / 256) + (f3 8 (f2 8 (f1 8 x)) + f3 8 (f2 8 (f1 8 x)) / 256) / 65536 < 2 ^ 62 ∧
    fold64 (f3 8 (f2 8 (f1 8 x))) < 2 ^ 63 ∧ fold64 (f3 8 (f2 8 (f1 8 x))) % 128 = ones 8 x := by
  obtain ⟨p0, p1, p2, p3, p4, p5, p6, p7, h0, h1, h2, h3, h4, h5, h6, h7, hy, ho⟩ := f3_eq x hx
  have := fold_eq p0 p1 p2 p3 p4 p5 p6 p7 h0 h1 h2 h3 h4 h5 h6 h7 _ hy
  rw [ho]
  exact this
theorem pop_set : ∀ b, b < 256 → ∀ j, j < 8 → pop (b ||| 2 ^ j) = pop b + (if b.testBit j then 0 else 1) := by decide +kernel
theorem pop_pos : ∀ b, b < 256 → ∀ j, j < 8 → b.testBit j = true → 1 ≤ pop b := by decide +kernel
theorem ones_set : ∀ k x j, j < 8 * k → ones k (x ||| 2 ^ j) = ones k x + (if x.testBit j then 0 else 1)
  | 0, _, _, h => by omega
  | k + 1, x, j, h => by
    have hm : (x ||| 2 ^ j) % 256 = (x % 256) ||| (2 ^ j % 256) := Nat.or_mod_two_pow (n := 8)
    have hd : (x ||| 2 ^ j) / 256 = (x / 256) ||| (2 ^ j / 256) := by
      have := @Nat.shiftRight_or_distrib 8 x (2 ^ j)
      rwa [Nat.shiftRight_eq_div_pow, Nat.shiftRight_eq_div_pow, Nat.shiftRight_eq_div_pow] at this
    rw [ones, ones, hm, hd]
    rcases Nat.lt_or_ge j 8 with hj | hj
    · have h2 : 2 ^ j < 256 := Nat.pow_lt_pow_right (by omega : 1 < 2) hj
      rw [Nat.mod_eq_of_lt h2, Nat.div_eq_of_lt h2, Nat.or_zero, pop_set _ (Nat.mod_lt _ (by omega)) j hj]
      have : (x % 256).testBit j = x.testBit j := by
        rw [show 256 = 2 ^ 8 from rfl, Nat.testBit_mod_two_pow]
        simp [hj]
      rw [this]
      omega
    · have e : 2 ^ j = 256 * 2 ^ (j - 8) := by
        rw [show j = 8 + (j - 8) by omega, Nat.pow_add]
        simp
      have e1 : 2 ^ j % 256 = 0 := by omega
      have e2 : 2 ^ j / 256 = 2 ^ (j - 8) := by omega
      rw [e1, e2, Nat.or_zero, ones_set k (x / 256) (j - 8) (by omega)]
      have : (x / 256).testBit (j - 8) = x.testBit j := by
        rw [show x / 256 = x / 2 ^ 8 from rfl, Nat.testBit_div_two_pow]
        congr 1; omega
      rw [this]
      omega
theorem ones_pos : ∀ k x j, j < 8 * k → x.testBit j = true → 1 ≤ ones k x
  | 0, _, _, h, _ => by omega
  | k + 1, x, j, h, hb => by
    rw [ones]
    rcases Nat.lt_or_ge j 8 with hj | hj
    · have : (x % 256).testBit j = x.testBit j := by
        rw [show 256 = 2 ^ 8 from rfl, Nat.testBit_mod_two_pow]
        simp [hj]
      have := pop_pos _ (Nat.mod_lt x (by omega : 256 > 0)) j hj (this.trans hb)
      omega
    · have : (x / 256).testBit (j - 8) = x.testBit j := by
        rw [show x / 256 = x / 2 ^ 8 from rfl, Nat.testBit_div_two_pow]
        congr 1; omega
      have := ones_pos k (x / 256) (j - 8) (by omega) (this.trans hb)
      omega
/-- how many bits of a filter are 1 -/
def cnt (l : List Nat) : Nat := (l.map (ones 8)).sum
theorem sum_set (f : Nat → Nat) : ∀ (l : List Nat) (i v : Nat) (_ : i < l.length), ((l.set i v).map f).sum + f (l.getD i 0) = (l.map f).sum + f v
  | x :: l, 0, v, _ => by simp; omega
  | x :: l, i + 1, v, h => by
    have := sum_set f l i v (by simpa using h)
    simp at this ⊢
    omega
theorem le_sum (f : Nat → Nat) : ∀ (l : List Nat) (i : Nat) (_ : i < l.length), f (l.getD i 0) ≤ (l.map f).sum
  | x :: l, 0, _ => by simp
  | x :: l, i + 1, h => by
    have := le_sum f l i (by simpa using h)
    simp at this ⊢
    omega
theorem cnt_setb (l : List Nat) (k : Nat) (hl : l.length = 16) (hk : k < 1024) : cnt (setb l k) = cnt l + (if bitb l k then 0 else 1) := by
  have := sum_set (ones 8) l (k / 64) (l.getD (k / 64) 0 ||| 2 ^ (k % 64)) (by omega)
  rw [ones_set 8 _ _ (by omega)] at this
  unfold cnt setb bitb
  omega
theorem cnt_badd (l : List Nat) (p0 p1 p2 p3 : Nat) (hl : l.length = 16) (h0 : p0 < 1024) (h1 : p1 < 1024) (h2 : p2 < 1024) (h3 : p3 < 1024) : cnt (badd l p0 p1 p2 p3) ≤ cnt l + 4 := by
  unfold badd
  rw [cnt_setb _ _ (by simp [setb_length, hl]) h3, cnt_setb _ _ (by simp [setb_length, hl]) h2, cnt_setb _ _ (by simp [setb_length, hl]) h1, cnt_setb _ _ hl h0]
  have hi : ∀ b : Bool, (if b = true then 0 else 1) ≤ 1 := by decide
  have a0 := hi (bitb l p0)
  have a1 := hi (bitb (setb l p0) p1)
  have a2 := hi (bitb (setb (setb l p0) p1) p2)
  have a3 := hi (bitb (setb (setb (setb l p0) p1) p2) p3)
  omega
theorem cnt_addl (l x : List Nat) (hl : IsB l) : cnt (addl l x) ≤ cnt l + 4 := cnt_badd l _ _ _ _ hl.1 (bpos_lt x 0) (bpos_lt x 1) (bpos_lt x 2) (bpos_lt x 3)
theorem cnt_pos (l : List Nat) (k : Nat) (hl : l.length = 16) (hk : k < 1024) (hb : bitb l k = true) : 1 ≤ cnt l := by
  have h1 := le_sum (ones 8) l (k / 64) (by omega)
  have h2 := ones_pos 8 (l.getD (k / 64) 0) (k % 64) (by omega) hb
  unfold cnt
  omega
theorem cnt_addl_pos (l x : List Nat) (hl : IsB l) : 1 ≤ cnt (addl l x) := by
  have h := hasl_addl hl x
  unfold hasl at h
  simp only [Bool.and_eq_true] at h
  exact cnt_pos _ _ (addl_ok hl x).1 (bpos_lt x 0) h.1.1.1
theorem addl_twice (l x : List Nat) (hl : IsB l) : addl (addl l x) x = addl l x := by
  refine ext_bits (addl_ok (addl_ok hl x) x) (addl_ok hl x) fun j _ => ?_
  unfold addl
  rw [bitb_badd _ _ _ _ _ _ (badd_ok hl _ _ _ _) (bpos_lt x 0) (bpos_lt x 1) (bpos_lt x 2) (bpos_lt x 3), bitb_badd _ _ _ _ _ _ hl (bpos_lt x 0) (bpos_lt x 1) (bpos_lt x 2) (bpos_lt x 3)]
  generalize decide (j = bpos x 0) = b0
  generalize decide (j = bpos x 1) = b1
  generalize decide (j = bpos x 2) = b2
  generalize decide (j = bpos x 3) = b3
  cases bitb l j <;> cases b0 <;> cases b1 <;> cases b2 <;> cases b3 <;> rfl
theorem cnt_zeros : cnt (List.replicate 16 0) = 0 := by decide +kernel
theorem cnt_fold : ∀ (ids : List (List Nat)) {l : List Nat}, IsB l → cnt (ids.foldl addl l) ≤ cnt l + 4 * ids.length
  | [], _, _ => by simp
  | x :: ids, l, h => by
    have h1 := cnt_fold ids (addl_ok h x)
    have h2 := cnt_addl l x h
    simp only [List.foldl_cons, List.length_cons]
    omega
theorem cnt_seven : cnt (addl (List.replicate 16 0) [0, 0, 0, 7, 0, 0, 0, 1]) = 4 := by decide +kernel
end Plain
end Go.Proofs.Ythfjonicolhjnaa
