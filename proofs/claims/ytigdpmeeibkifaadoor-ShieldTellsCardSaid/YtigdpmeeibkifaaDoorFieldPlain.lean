/- Plain facts on the field of 256 elements: its product is bilinear, commutative, associative, has inverses; powers. -/
import Derived.Test.YtigdpmeeibkifaaDoorBasis
namespace Go.Proofs.YtigdpmeeibkifaaDoor.Plain
/-- times x in the field of 256 elements -/
def xt (a : Nat) : Nat := (a * 2 % 256) ^^^ (bif a.testBit 7 then 29 else 0)
def mulF : Nat → Nat → Nat → Nat
  | 0, _, _ => 0
  | n + 1, a, b => (bif b.testBit 0 then a else 0) ^^^ mulF n (xt a) (b / 2)
def fmul (a b : Nat) : Nat := mulF 8 a b
theorem mod_lin (k : Nat) : Lin (fun x => x % 2 ^ k) := fun _ _ => Nat.xor_mod_two_pow
theorem xt_lin : Lin xt := by
  have h1 : Lin (fun a => (a <<< 1) % 2 ^ 8) := (mod_lin 8).comp (Lin.shl 1)
  have h := h1.xor (Lin.bit 7 29)
  intro a b
  have := h a b
  simpa [xt, Nat.shiftLeft_eq] using this
theorem xt_lt (a : Nat) : xt a < 256 := by
  unfold xt
  have h1 : a * 2 % 256 < 2 ^ 8 := Nat.mod_lt _ (by decide)
  have h2 : (bif a.testBit 7 then 29 else 0) < 2 ^ 8 := by cases a.testBit 7 <;> decide
  exact Nat.xor_lt_two_pow h1 h2
theorem mulF_zero_right (n a : Nat) : mulF n a 0 = 0 := by
  induction n generalizing a with
  | zero => rfl
  | succ n ih => simp [mulF, ih]
theorem mulF_lin_left (n b : Nat) : Lin (fun a => mulF n a b) := by
  induction n generalizing b with
  | zero => intro a c; simp [mulF]
  | succ n ih =>
    intro a c
    have h := ih (b / 2) (xt a) (xt c)
    show (bif b.testBit 0 then a ^^^ c else 0) ^^^ mulF n (xt (a ^^^ c)) (b / 2) = ((bif b.testBit 0 then a else 0) ^^^ mulF n (xt a) (b / 2)) ^^^ ((bif b.testBit 0 then c else 0) ^^^ mulF n (xt c) (b / 2))
    have h' : mulF n (xt a ^^^ xt c) (b / 2) = mulF n (xt a) (b / 2) ^^^ mulF n (xt c) (b / 2) := h
    rw [xt_lin a c, h']
    cases b.testBit 0
    · simp
    · simp only [cond_true]; ac_rfl
theorem mulF_lin_right (n a : Nat) : Lin (fun b => mulF n a b) := by
  induction n generalizing a with
  | zero => intro b c; simp [mulF]
  | succ n ih =>
    intro b c
    have h : mulF n (xt a) ((b / 2) ^^^ (c / 2)) = mulF n (xt a) (b / 2) ^^^ mulF n (xt a) (c / 2) := ih (xt a) (b / 2) (c / 2)
    have hd : (b ^^^ c) / 2 = b / 2 ^^^ c / 2 := by
      have := Lin.shr 1 b c
      simpa [Nat.shiftRight_eq_div_pow] using this
    have hb := Lin.bit 0 a b c
    simp only at hb
    show (bif (b ^^^ c).testBit 0 then a else 0) ^^^ mulF n (xt a) ((b ^^^ c) / 2) = ((bif b.testBit 0 then a else 0) ^^^ mulF n (xt a) (b / 2)) ^^^ ((bif c.testBit 0 then a else 0) ^^^ mulF n (xt a) (c / 2))
    rw [hb, hd, h]
    ac_rfl
theorem fmul_xor_left (a b c : Nat) : fmul (a ^^^ b) c = fmul a c ^^^ fmul b c := mulF_lin_left 8 c a b
theorem fmul_xor_right (a b c : Nat) : fmul a (b ^^^ c) = fmul a b ^^^ fmul a c := mulF_lin_right 8 a b c
theorem fmul_zero_right (a : Nat) : fmul a 0 = 0 := mulF_zero_right 8 a
theorem fmul_zero_left (a : Nat) : fmul 0 a = 0 := (mulF_lin_left 8 a).zero
theorem mulF_lt (n a b : Nat) (ha : a < 256) : mulF n a b < 256 := by
  induction n generalizing a b with
  | zero => simp [mulF]
  | succ n ih =>
    have h2 : (bif b.testBit 0 then a else 0) < 2 ^ 8 := by cases b.testBit 0 <;> simp <;> omega
    exact Nat.xor_lt_two_pow h2 (ih _ _ (xt_lt a))
theorem fmul_lt (a b : Nat) (ha : a < 256) : fmul a b < 256 := mulF_lt 8 a b ha
def basisComm : Bool := (List.range 8).all fun i => (List.range 8).all fun j => fmul (2 ^ i) (2 ^ j) == fmul (2 ^ j) (2 ^ i)
def basisAssoc : Bool := (List.range 8).all fun i => (List.range 8).all fun j => (List.range 8).all fun k => fmul (fmul (2 ^ i) (2 ^ j)) (2 ^ k) == fmul (2 ^ i) (fmul (2 ^ j) (2 ^ k))
theorem basisComm_true : basisComm = true := by decide +kernel
theorem basisAssoc_true : basisAssoc = true := by decide +kernel
theorem fmul_comm (a b : Nat) (ha : a < 256) (hb : b < 256) : fmul a b = fmul b a := by
  refine lin_ext (f := fun x => fmul x b) (g := fun x => fmul b x) (mulF_lin_left 8 b) (mulF_lin_right 8 b) 8 (fun i hi => ?_) a ha
  refine lin_ext (f := fun x => fmul (2 ^ i) x) (g := fun x => fmul x (2 ^ i)) (mulF_lin_right 8 _) (mulF_lin_left 8 _) 8 (fun j hj => ?_) b hb
  have h := basisComm_true
  simp only [basisComm, List.all_eq_true, List.mem_range, beq_iff_eq] at h
  exact h i hi j hj
theorem fmul_assoc (a b c : Nat) (ha : a < 256) (hb : b < 256) (hc : c < 256) : fmul (fmul a b) c = fmul a (fmul b c) := by
  refine lin_ext (f := fun x => fmul (fmul x b) c) (g := fun x => fmul x (fmul b c)) (Lin.comp (mulF_lin_left 8 c) (mulF_lin_left 8 b)) (mulF_lin_left 8 _) 8 (fun i hi => ?_) a ha
  refine lin_ext (f := fun x => fmul (fmul (2 ^ i) x) c) (g := fun x => fmul (2 ^ i) (fmul x c)) (Lin.comp (mulF_lin_left 8 c) (mulF_lin_right 8 _)) (Lin.comp (mulF_lin_right 8 _) (mulF_lin_left 8 c)) 8 (fun j hj => ?_) b hb
  refine lin_ext (f := fun x => fmul (fmul (2 ^ i) (2 ^ j)) x) (g := fun x => fmul (2 ^ i) (fmul (2 ^ j) x)) (mulF_lin_right 8 _) (Lin.comp (mulF_lin_right 8 _) (mulF_lin_right 8 _)) 8 (fun k hk => ?_) c hc
  have h := basisAssoc_true
  simp only [basisAssoc, List.all_eq_true, List.mem_range, beq_iff_eq] at h
  exact h i hi j hj k hk
theorem fmul_one (a : Nat) : fmul a 1 = a := by
  simp [fmul, mulF]
theorem one_fmul (a : Nat) (ha : a < 256) : fmul 1 a = a := by rw [fmul_comm 1 a (by decide) ha, fmul_one]
/-- powers -/
def fpow (a : Nat) : Nat → Nat
  | 0 => 1
  | n + 1 => fmul (fpow a n) a
theorem fpow_lt (a n : Nat) : fpow a n < 256 := by
  induction n with
  | zero => simp [fpow]
  | succ n ih => exact fmul_lt _ _ ih
theorem fpow_add (a n m : Nat) (ha : a < 256) : fpow a (n + m) = fmul (fpow a n) (fpow a m) := by
  induction m with
  | zero => simp [fpow, fmul_one]
  | succ m ih =>
    show fmul (fpow a (n + m)) a = fmul (fpow a n) (fmul (fpow a m) a)
    rw [ih, fmul_assoc _ _ _ (fpow_lt _ _) (fpow_lt _ _) ha]
theorem fpow_sq (a n : Nat) (ha : a < 256) : fpow (fmul a a) n = fpow a (2 * n) := by
  induction n with
  | zero => rfl
  | succ n ih =>
    show fmul (fpow (fmul a a) n) (fmul a a) = fmul (fmul (fpow a (2 * n)) a) a
    rw [ih, fmul_assoc _ _ _ (fpow_lt _ _) ha ha]
/-- what square and multiply comes to -/
def powL : Nat → Nat → Nat → Nat → Nat
  | 0, o, _, _ => o
  | f + 1, o, a, n => if n = 0 then o else powL f (if n % 2 = 1 then fmul o a else o) (fmul a a) (n / 2)
theorem pow_step (o a n : Nat) (ho : o < 256) (ha : a < 256) :
    fmul (if n % 2 = 1 then fmul o a else o) (fpow (fmul a a) (n / 2)) = fmul o (fpow a n) := by
  rw [fpow_sq a _ ha]
  by_cases h : n % 2 = 1
  · rw [if_pos h]
    have e : n = 2 * (n / 2) + 1 := by omega
    have e2 : fpow a n = fmul (fpow a (2 * (n / 2))) a := by rw [e]; simp only [fpow]; congr 2; omega
    rw [e2, fmul_assoc _ _ _ ho ha (fpow_lt _ _), fmul_comm a _ ha (fpow_lt _ _)]
  · rw [if_neg h]
    have e : 2 * (n / 2) = n := by omega
    rw [e]
def fsqm : Nat → Nat → Nat → Nat
  | 0, _, _ => 1
  | f + 1, a, n => if n = 0 then 1 else fmul (fsqm f (fmul a a) (n / 2)) (if n % 2 = 1 then a else 1)
theorem fsqm_eq (f a n : Nat) (ha : a < 256) (hn : n < 2 ^ f) : fsqm f a n = fpow a n := by
  induction f generalizing a n with
  | zero => have : n = 0 := by omega
            subst this; rfl
  | succ f ih =>
    unfold fsqm
    by_cases h0 : n = 0
    · rw [if_pos h0, h0]; rfl
    · rw [if_neg h0, ih (fmul a a) (n / 2) (fmul_lt _ _ ha) (by omega)]
      have := pow_step 1 a n (by decide) ha
      rw [one_fmul _ (fpow_lt _ _), one_fmul _ ha] at this
      rw [fmul_comm _ _ (fpow_lt _ _) (by split <;> omega), this]
theorem inv_all : ((List.range 256).all fun a => a == 0 || fmul a (fsqm 8 a 254) == 1) = true := by decide +kernel
theorem inv_right (a : Nat) (ha : a < 256) (h0 : a ≠ 0) : fmul a (fpow a 254) = 1 := by
  have h := inv_all
  simp only [List.all_eq_true, List.mem_range, Bool.or_eq_true, beq_iff_eq] at h
  have := (h a ha).resolve_left h0
  rwa [fsqm_eq 8 a 254 ha (by decide)] at this
theorem fpow_255 (a : Nat) (ha : a < 256) (h0 : a ≠ 0) : fpow a 255 = 1 := by
  show fmul (fpow a 254) a = 1
  rw [fmul_comm _ _ (fpow_lt _ _) ha, inv_right a ha h0]
theorem fmul_eq_zero (a b : Nat) (ha : a < 256) (hb : b < 256) (h : fmul a b = 0) : a = 0 ∨ b = 0 := by
  by_cases h0 : a = 0
  · exact .inl h0
  · right
    have h1 : fmul (fpow a 254) (fmul a b) = b := by
      rw [← fmul_assoc _ _ _ (fpow_lt _ _) ha hb, fmul_comm _ a (fpow_lt _ _) ha, inv_right a ha h0, one_fmul b hb]
    rw [h, fmul_zero_right] at h1
    exact h1.symm
theorem fmul_sq_xor (a b : Nat) (ha : a < 256) (hb : b < 256) : fmul (a ^^^ b) (a ^^^ b) = fmul a a ^^^ fmul b b := by
  rw [fmul_xor_left, fmul_xor_right, fmul_xor_right, fmul_comm b a hb ha]
  have : (fmul a a ^^^ fmul a b) ^^^ (fmul a b ^^^ fmul b b) = fmul a a ^^^ ((fmul a b ^^^ fmul a b) ^^^ fmul b b) := by ac_rfl
  rw [this, Nat.xor_self, Nat.zero_xor]
/-- how many exponents below n give a -/
def hits (a : Nat) (n : Nat) : Nat := ((List.range n).filter fun i => fpow 2 i == a).length
theorem hits_succ (a n : Nat) : hits a (n + 1) = hits a n + if fpow 2 n = a then 1 else 0 := by
  unfold hits
  rw [List.range_succ, List.filter_append]
  by_cases h : fpow 2 n = a <;> simp [h]
def powList : Nat → Nat → List Nat
  | 0, _ => []
  | n + 1, x => x :: powList n (fmul x 2)
theorem powList_eq (n k : Nat) : powList n (fpow 2 k) = (List.range n).map fun i => fpow 2 (k + i) := by
  induction n generalizing k with
  | zero => rfl
  | succ n ih =>
    have h : fmul (fpow 2 k) 2 = fpow 2 (k + 1) := rfl
    rw [powList, h, ih, List.range_succ_eq_map]
    simp only [List.map_cons, List.map_map, Nat.add_zero]
    congr 1
    apply List.map_congr_left
    intro i _
    simp only [Function.comp]
    congr 1; omega
theorem cycle_all : ((List.range 256).all fun a => ((powList 255 1).filter fun x => x == a).length == (if a = 0 then 0 else 1)) = true := by decide +kernel
theorem hits_255 (a : Nat) (ha : a < 256) : hits a 255 = if a = 0 then 0 else 1 := by
  have h := cycle_all
  simp only [List.all_eq_true, List.mem_range, beq_iff_eq] at h
  have h1 := h a ha
  have e := powList_eq 255 0
  have e0 : fpow 2 0 = 1 := rfl
  rw [e0] at e
  rw [e, List.filter_map, List.length_map] at h1
  rw [← h1]
  simp only [hits, Function.comp_def, Nat.zero_add]
end Go.Proofs.YtigdpmeeibkifaaDoor.Plain
