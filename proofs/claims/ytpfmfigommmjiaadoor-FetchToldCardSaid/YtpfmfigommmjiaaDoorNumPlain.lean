/- Plain laws of the encodings of numbers, integers and texts: read back, unique, ordered, free of prefixes. -/
import Derived.WalkKit
namespace Go.Proofs.YtpfmfigommmjiaaDoor
namespace Plain
/-! the order of strings of bytes -/
def lx : List Nat → List Nat → Bool
  | _, [] => false
  | [], _ :: _ => true
  | a :: x, b :: y => decide (a < b) || (a == b && lx x y)
theorem lx_cons (a b : Nat) (x y : List Nat) : lx (a :: x) (b :: y) = true ↔ a < b ∨ (a = b ∧ lx x y = true) := by simp [lx]
theorem lx_irrefl : ∀ l, lx l l = false
  | [] => rfl
  | a :: x => by simp [lx, lx_irrefl x]
/-! digits by 256 -/
def vl (l : List Nat) : Nat := l.foldl (fun n c => n * 256 + c) 0
theorem vl_foldl : ∀ (l : List Nat) (n : Nat), l.foldl (fun n c => n * 256 + c) n = n * 256 ^ l.length + vl l
  | [], n => by simp [vl]
  | a :: x, n => by
    rw [List.foldl_cons, vl_foldl x, show vl (a :: x) = x.foldl (fun n c => n * 256 + c) (0 * 256 + a) from rfl, vl_foldl x (0 * 256 + a)]
    rw [List.length_cons, Nat.pow_succ, Nat.add_mul, Nat.add_mul, Nat.mul_assoc, Nat.mul_comm 256]
    omega
theorem vl_cons (a : Nat) (x : List Nat) : vl (a :: x) = a * 256 ^ x.length + vl x := by
  rw [show vl (a :: x) = x.foldl (fun n c => n * 256 + c) (0 * 256 + a) from rfl, vl_foldl]
  simp
theorem vl_snoc (l : List Nat) (c : Nat) : vl (l ++ [c]) = vl l * 256 + c := by simp [vl]
theorem vl_lt : ∀ l : List Nat, (∀ c ∈ l, c < 256) → vl l < 256 ^ l.length
  | [], _ => by simp [vl]
  | a :: x, h => by
    have ih := vl_lt x fun c hc => h c (List.mem_cons_of_mem _ hc)
    have ha := h a (by simp)
    have h1 : (a + 1) * 256 ^ x.length ≤ 256 * 256 ^ x.length := Nat.mul_le_mul_right _ (by omega)
    rw [Nat.succ_mul] at h1
    rw [vl_cons]
    simp only [List.length_cons, Nat.pow_succ]
    omega
/-- digits: bytes, the first of which is not 0 -/
def Dig (l : List Nat) : Prop := (∀ c ∈ l, c < 256) ∧ (∀ a x, l = a :: x → a ≠ 0)
theorem Dig.nil : Dig [] := ⟨by simp, by simp⟩
theorem Dig.low {l : List Nat} (h : Dig l) (hl : l ≠ []) : 256 ^ (l.length - 1) ≤ vl l := by
  cases l with
  | nil => exact absurd rfl hl
  | cons a x =>
    have := h.2 a x rfl
    rw [vl_cons, List.length_cons, Nat.add_sub_cancel]
    have : 1 * 256 ^ x.length ≤ a * 256 ^ x.length := Nat.mul_le_mul_right _ (by omega)
    omega
theorem Dig.lt_of_length {l m : List Nat} (h : Dig l) (g : Dig m) (hl : l.length < m.length) : vl l < vl m := by
  have h1 := vl_lt l h.1
  have h2 := g.low (by rintro rfl; simp at hl)
  have h3 : 256 ^ l.length ≤ 256 ^ (m.length - 1) := Nat.pow_le_pow_right (by decide) (by omega)
  omega
theorem lx_vl : ∀ (l m : List Nat), l.length = m.length → (∀ c ∈ l, c < 256) → (∀ c ∈ m, c < 256) → (lx l m = true ↔ vl l < vl m)
  | [], [], _, _, _ => by simp [lx, vl]
  | a :: x, b :: y, hl, h1, h2 => by
    have hl' : x.length = y.length := by simpa using hl
    have ih := lx_vl x y hl' (fun c hc => h1 c (List.mem_cons_of_mem _ hc)) (fun c hc => h2 c (List.mem_cons_of_mem _ hc))
    have vx := vl_lt x fun c hc => h1 c (List.mem_cons_of_mem _ hc)
    have vy := vl_lt y fun c hc => h2 c (List.mem_cons_of_mem _ hc)
    rw [← hl'] at vy
    rw [lx_cons, ih, vl_cons, vl_cons, ← hl']
    rcases Nat.lt_trichotomy a b with h | h | h
    · have h3 : (a + 1) * 256 ^ x.length ≤ b * 256 ^ x.length := Nat.mul_le_mul_right _ h
      rw [Nat.succ_mul] at h3
      exact ⟨fun _ => by omega, fun _ => .inl h⟩
    · subst h
      exact ⟨fun h => by rcases h with h | ⟨_, h⟩ <;> omega, fun h => .inr ⟨rfl, by omega⟩⟩
    · have h3 : (b + 1) * 256 ^ x.length ≤ a * 256 ^ x.length := Nat.mul_le_mul_right _ h
      rw [Nat.succ_mul] at h3
      exact ⟨fun h => by rcases h with h | ⟨_, h⟩ <;> omega, fun _ => by omega⟩
theorem vl_inj : ∀ (l m : List Nat), l.length = m.length → (∀ c ∈ l, c < 256) → (∀ c ∈ m, c < 256) → vl l = vl m → l = m
  | [], [], _, _, _, _ => rfl
  | a :: x, b :: y, hl, h1, h2, e => by
    have hl' : x.length = y.length := by simpa using hl
    have vx := vl_lt x fun c hc => h1 c (List.mem_cons_of_mem _ hc)
    have vy := vl_lt y fun c hc => h2 c (List.mem_cons_of_mem _ hc)
    rw [← hl'] at vy
    rw [vl_cons, vl_cons, ← hl'] at e
    have hab : a = b := by
      rcases Nat.lt_trichotomy a b with h | h | h
      · have h3 : (a + 1) * 256 ^ x.length ≤ b * 256 ^ x.length := Nat.mul_le_mul_right _ h
        rw [Nat.succ_mul] at h3
        omega
      · exact h
      · have h3 : (b + 1) * 256 ^ x.length ≤ a * 256 ^ x.length := Nat.mul_le_mul_right _ h
        rw [Nat.succ_mul] at h3
        omega
    subst hab
    rw [vl_inj x y hl' (fun c hc => h1 c (List.mem_cons_of_mem _ hc)) (fun c hc => h2 c (List.mem_cons_of_mem _ hc)) (by omega)]
theorem Dig.inj {l m : List Nat} (h : Dig l) (g : Dig m) (e : vl l = vl m) : l = m := by
  rcases Nat.lt_trichotomy l.length m.length with hl | hl | hl
  · have := h.lt_of_length g hl; omega
  · exact vl_inj l m hl h.1 g.1 e
  · have := g.lt_of_length h hl; omega
/-- without the zeros in front -/
def strip : List Nat → List Nat
  | [] => []
  | 0 :: x => strip x
  | (a + 1) :: x => (a + 1) :: x
theorem strip_dig : ∀ l : List Nat, (∀ c ∈ l, c < 256) → Dig (strip l)
  | [], _ => Dig.nil
  | 0 :: x, h => strip_dig x fun c hc => h c (List.mem_cons_of_mem _ hc)
  | (a + 1) :: x, h => ⟨h, fun b y e => by simp only [strip, List.cons.injEq] at e; omega⟩
theorem strip_vl : ∀ l : List Nat, vl (strip l) = vl l
  | [] => rfl
  | 0 :: x => by rw [strip, strip_vl x, vl_cons]; omega
  | (a + 1) :: x => rfl
theorem strip_length : ∀ l : List Nat, (strip l).length ≤ l.length
  | [] => Nat.le_refl _
  | 0 :: x => by rw [strip, List.length_cons]; have := strip_length x; omega
  | (a + 1) :: x => Nat.le_refl _
/-- the digits of a number are known by what they are -/
def Digs (n : Nat) (l : List Nat) : Prop := Dig l ∧ l.length ≤ 8 ∧ vl l = n
theorem Digs.unique {n : Nat} {l m : List Nat} (h : Digs n l) (g : Digs n m) : l = m := h.1.inj g.1 (h.2.2.trans g.2.2.symm)
theorem Digs.lx {a b : Nat} {l m : List Nat} (h : Digs a l) (g : Digs b m) : lx (l.length :: l) (m.length :: m) = true ↔ a < b := by
  rw [lx_cons, ← h.2.2, ← g.2.2]
  constructor
  · rintro (e | ⟨e, e2⟩)
    · exact h.1.lt_of_length g.1 e
    · exact (lx_vl l m e h.1.1 g.1.1).1 e2
  · intro e
    rcases Nat.lt_trichotomy l.length m.length with hl | hl | hl
    · exact .inl hl
    · exact .inr ⟨hl, (lx_vl l m hl h.1.1 g.1.1).2 e⟩
    · have := g.1.lt_of_length h.1 hl; omega
/-! a number -/
def Num (n : Nat) (s : List Nat) : Prop := ∃ l, Digs n l ∧ s = l.length :: l
theorem Num.lx {a b : Nat} {s t : List Nat} (h : Num a s) (g : Num b t) : Plain.lx s t = true ↔ a < b := by
  obtain ⟨l, hl, rfl⟩ := h
  obtain ⟨m, hm, rfl⟩ := g
  exact hl.lx hm
theorem Num.unique {n : Nat} {s t : List Nat} (h : Num n s) (g : Num n t) : s = t := by
  obtain ⟨l, hl, rfl⟩ := h
  obtain ⟨m, hm, rfl⟩ := g
  rw [hl.unique hm]
theorem Num.lt {n : Nat} {s : List Nat} (h : Num n s) : ∀ c ∈ s, c < 256 := by
  obtain ⟨l, hl, rfl⟩ := h
  intro c hc
  rcases List.mem_cons.1 hc with rfl | hc
  · have := hl.2.1; omega
  · exact hl.1.1 c hc
theorem Num.length {n : Nat} {s : List Nat} (h : Num n s) : 1 ≤ s.length ∧ s.length ≤ 9 := by
  obtain ⟨l, hl, rfl⟩ := h
  have := hl.2.1
  simp only [List.length_cons]
  omega
/-- what Get answers: the number, how many bytes, which error -/
def getN (s : List Nat) : Nat × Nat × Nat :=
  match s with
  | [] => (0, 0, 3)
  | k :: x =>
    if 8 < k then (0, 0, 4)
    else if x.length < k then (0, 0, 3)
    else if 0 < k ∧ x.getD 0 0 = 0 then (0, 0, 4)
    else (vl (x.take k), 1 + k, 0)
theorem getN_num {n : Nat} {s : List Nat} (h : Num n s) (more : List Nat) : getN (s ++ more) = (n, s.length, 0) := by
  obtain ⟨l, hl, rfl⟩ := h
  have h8 := hl.2.1
  rw [List.cons_append, getN, if_neg (by omega), if_neg (by rw [List.length_append]; omega), if_neg, List.take_left, hl.2.2, List.length_cons, Nat.add_comm]
  rintro ⟨h1, h2⟩
  cases l with
  | nil => simp at h1
  | cons a x =>
    simp only [List.cons_append, List.getD_cons_zero] at h2
    exact hl.1.2 a x rfl h2
theorem getN_back {s : List Nat} (hs : ∀ c ∈ s, c < 256) {n k : Nat} (h : getN s = (n, k, 0)) : k ≤ s.length ∧ Num n (s.take k) := by
  cases s with
  | nil => simp [getN] at h
  | cons c x =>
    rw [getN] at h
    split at h
    · simp at h
    · split at h
      · simp at h
      · split at h
        · simp at h
        · rename_i h1 h2 h3
          simp only [Prod.mk.injEq, and_true] at h
          obtain ⟨rfl, rfl⟩ := h
          have hlen : (x.take c).length = c := by rw [List.length_take]; omega
          refine ⟨by rw [List.length_cons]; omega, x.take c, ⟨⟨fun d hd => hs d (List.mem_cons_of_mem _ (List.mem_of_mem_take hd)), fun a y e => ?_⟩, by omega, rfl⟩, by rw [hlen, Nat.add_comm, List.take_succ_cons]⟩
          rintro rfl
          cases x with
          | nil => simp at e
          | cons b z =>
            cases c with
            | zero => simp at e
            | succ c =>
              simp only [List.take_succ_cons, List.cons.injEq] at e
              exact h3 ⟨by omega, by simpa using e.1⟩
theorem getN_err {s : List Nat} {n k c : Nat} (h : getN s = (n, k, c)) (hc : c ≠ 0) : n = 0 ∧ k = 0 := by
  cases s with
  | nil => simp [getN] at h; omega
  | cons a x =>
    rw [getN] at h
    split at h
    · simp at h; omega
    · split at h
      · simp at h; omega
      · split at h
        · simp at h; omega
        · simp at h; omega
theorem getN_bound (s : List Nat) : (getN s).2.1 ≤ s.length ∧ (getN s).2.1 ≤ 9 := by
  cases s with
  | nil => simp [getN]
  | cons a x =>
    rw [getN]
    split
    · simp
    · split
      · simp
      · split
        · simp
        · simp only [List.length_cons]; omega
/-- no beginning of another one -/
theorem Num.free {a b : Nat} {s t : List Nat} (h : Num a s) (g : Num b t) : t <+: s ↔ a = b := by
  constructor
  · rintro ⟨r, rfl⟩
    have e1 := getN_num g r
    have e2 := getN_num h []
    rw [List.append_nil, e1] at e2
    simp only [Prod.mk.injEq] at e2
    exact e2.1.symm
  · rintro rfl
    rw [h.unique g]
    exact List.prefix_refl _
/-! an integer -/
def flp (l : List Nat) : List Nat := l.map (255 - ·)
theorem flp_flp {l : List Nat} (h : ∀ c ∈ l, c < 256) : flp (flp l) = l := by
  unfold flp
  rw [List.map_map]
  conv => rhs; rw [← List.map_id l]
  apply List.map_congr_left
  intro c hc
  have := h c hc
  simp only [Function.comp, id]
  omega
theorem flp_lt (l : List Nat) : ∀ c ∈ flp l, c < 256 := by
  intro c hc
  obtain ⟨d, _, rfl⟩ := List.mem_map.1 hc
  omega
theorem lx_flp : ∀ (l m : List Nat), l.length = m.length → (∀ c ∈ l, c < 256) → (∀ c ∈ m, c < 256) → lx (flp l) (flp m) = lx m l
  | [], [], _, _, _ => rfl
  | a :: x, b :: y, hl, h1, h2 => by
    have ih := lx_flp x y (by simpa using hl) (fun c hc => h1 c (List.mem_cons_of_mem _ hc)) (fun c hc => h2 c (List.mem_cons_of_mem _ hc))
    have ha := h1 a (by simp)
    have hb := h2 b (by simp)
    show lx ((255 - a) :: flp x) ((255 - b) :: flp y) = lx (b :: y) (a :: x)
    rw [Bool.eq_iff_iff, lx_cons, lx_cons, ih]
    constructor
    · rintro (h | ⟨h, h'⟩)
      · exact .inl (by omega)
      · exact .inr ⟨by omega, h'⟩
    · rintro (h | ⟨h, h'⟩)
      · exact .inl (by omega)
      · exact .inr ⟨by omega, h'⟩
def INum (n : Int) (s : List Nat) : Prop :=
  (0 ≤ n ∧ ∃ l, Digs n.toNat l ∧ s = (128 + l.length) :: l) ∨ (n < 0 ∧ ∃ l, Digs (-1 - n).toNat l ∧ s = (127 - l.length) :: flp l)
theorem INum.unique {n : Int} {s t : List Nat} (h : INum n s) (g : INum n t) : s = t := by
  rcases h with ⟨h0, l, hl, rfl⟩ | ⟨h0, l, hl, rfl⟩ <;> rcases g with ⟨g0, m, hm, rfl⟩ | ⟨g0, m, hm, rfl⟩
  · rw [hl.unique hm]
  · omega
  · omega
  · rw [hl.unique hm]
theorem INum.lx {a b : Int} {s t : List Nat} (h : INum a s) (g : INum b t) : Plain.lx s t = true ↔ a < b := by
  rcases h with ⟨h0, l, hl, rfl⟩ | ⟨h0, l, hl, rfl⟩ <;> rcases g with ⟨g0, m, hm, rfl⟩ | ⟨g0, m, hm, rfl⟩
  · have := hl.lx hm
    rw [lx_cons] at this ⊢
    constructor
    · intro h
      have := this.1 (by rcases h with h | ⟨h, h'⟩; exact .inl (by omega); exact .inr ⟨by omega, h'⟩)
      omega
    · intro h
      rcases this.2 (by omega) with h | ⟨h, h'⟩
      · exact .inl (by omega)
      · exact .inr ⟨by omega, h'⟩
  · rw [lx_cons]
    exact ⟨fun h => by have := hm.2.1; omega, fun h => by omega⟩
  · rw [lx_cons]
    exact ⟨fun _ => by omega, fun _ => .inl (by have := hl.2.1; omega)⟩
  · have := hm.lx hl
    have h8 := hl.2.1
    have g8 := hm.2.1
    rw [lx_cons] at this ⊢
    constructor
    · intro h
      have := this.1 (by
        rcases h with h | ⟨h, h'⟩
        · exact .inl (by omega)
        · have e : l.length = m.length := by omega
          rw [lx_flp l m e hl.1.1 hm.1.1] at h'
          exact .inr ⟨e.symm, h'⟩)
      omega
    · intro h
      rcases this.2 (by omega) with h | ⟨h, h'⟩
      · exact .inl (by omega)
      · exact .inr ⟨by omega, by rw [lx_flp l m h.symm hl.1.1 hm.1.1]; exact h'⟩
theorem INum.lt {n : Int} {s : List Nat} (h : INum n s) : ∀ c ∈ s, c < 256 := by
  rcases h with ⟨_, l, hl, rfl⟩ | ⟨_, l, hl, rfl⟩ <;> intro c hc <;> rcases List.mem_cons.1 hc with rfl | hc
  · have := hl.2.1; omega
  · exact hl.1.1 c hc
  · omega
  · exact flp_lt l c hc
/-- what GetInt answers -/
def getI (s : List Nat) : Int × Nat × Nat :=
  match s with
  | [] => (0, 0, 3)
  | c :: x =>
    let k := if c < 128 then 127 - c else c - 128
    let d := if c < 128 then flp (x.take k) else x.take k
    if 8 < k then (0, 0, 4)
    else if x.length < k then (0, 0, 3)
    else if (0 < k ∧ d.getD 0 0 = 0) ∨ 9223372036854775807 < vl d then (0, 0, 4)
    else (if c < 128 then -1 - (vl d : Int) else (vl d : Int), 1 + k, 0)
theorem dig_first {l : List Nat} (h : Dig l) : ¬ (0 < l.length ∧ l.getD 0 0 = 0) := by
  rintro ⟨h1, h2⟩
  cases l with
  | nil => simp at h1
  | cons a x => exact h.2 a x rfl (by simpa using h2)
theorem getI_num {n : Int} {s : List Nat} (h : INum n s) (hn : -9223372036854775808 ≤ n ∧ n ≤ 9223372036854775807) (more : List Nat) : getI (s ++ more) = (n, s.length, 0) := by
  rcases h with ⟨h0, l, hl, rfl⟩ | ⟨h0, l, hl, rfl⟩
  · have h8 := hl.2.1
    have e1 : ¬ 128 + l.length < 128 := by omega
    have e2 : 128 + l.length - 128 = l.length := by omega
    have e3 : (l ++ more).take l.length = l := List.take_left
    have hv := hl.2.2
    simp only [List.cons_append, getI, e1, if_false, e2, e3]
    rw [if_neg (by omega), if_neg (by rw [List.length_append]; omega), if_neg (by rintro (h | h); exact dig_first hl.1 h; omega)]
    simp only [List.length_cons, Prod.mk.injEq, and_true]
    omega
  · have h8 := hl.2.1
    have e1 : 127 - l.length < 128 := by omega
    have e2 : 127 - (127 - l.length) = l.length := by omega
    have e4 : (flp l).length = l.length := by simp [flp]
    have e3 : (flp l ++ more).take l.length = flp l := by rw [← e4]; exact List.take_left
    have hv := hl.2.2
    simp only [List.cons_append, getI, e1, if_true, e2, e3, flp_flp hl.1.1]
    rw [if_neg (by omega), if_neg (by rw [List.length_append]; omega), if_neg (by rintro (h | h); exact dig_first hl.1 h; omega)]
    simp only [List.length_cons, Prod.mk.injEq, and_true, e4]
    omega
theorem flp_take (l : List Nat) (k : Nat) : flp (l.take k) = (flp l).take k := by simp [flp, List.map_take]
theorem dig_of_first {l : List Nat} (h : ∀ c ∈ l, c < 256) (h2 : ¬ (0 < l.length ∧ l.getD 0 0 = 0)) : Dig l := ⟨h, by
  rintro a x rfl ha
  exact h2 ⟨by simp, by simpa using ha⟩⟩
theorem getI_back {s : List Nat} (hs : ∀ c ∈ s, c < 256) {n : Int} {k : Nat} (h : getI s = (n, k, 0)) : k ≤ s.length ∧ INum n (s.take k) ∧ -9223372036854775808 ≤ n ∧ n ≤ 9223372036854775807 := by
  cases s with
  | nil => simp [getI] at h
  | cons c x =>
    have hc : c < 256 := hs c (by simp)
    have hx : ∀ d ∈ x, d < 256 := fun d hd => hs d (List.mem_cons_of_mem _ hd)
    by_cases e1 : c < 128
    · simp only [getI, e1, if_true] at h
      split at h
      · simp at h
      · split at h
        · simp at h
        · split at h
          · simp at h
          · rename_i h1 h2 h3
            simp only [Prod.mk.injEq, and_true] at h
            obtain ⟨rfl, rfl⟩ := h
            have hlen : (flp (x.take (127 - c))).length = 127 - c := by simp [flp]; omega
            refine ⟨by rw [List.length_cons]; omega, .inr ⟨by omega, flp (x.take (127 - c)), ⟨dig_of_first (flp_lt _) (fun h => h3 (.inl ⟨by rw [← hlen]; exact h.1, h.2⟩)), by omega, by omega⟩, ?_⟩, by omega, by omega⟩
            rw [hlen, flp_flp (fun d hd => hx d (List.mem_of_mem_take hd)), Nat.add_comm 1, List.take_succ_cons]
            congr 1
            omega
    · simp only [getI, e1, if_false] at h
      split at h
      · simp at h
      · split at h
        · simp at h
        · split at h
          · simp at h
          · rename_i h1 h2 h3
            simp only [Prod.mk.injEq, and_true] at h
            obtain ⟨rfl, rfl⟩ := h
            have hlen : (x.take (c - 128)).length = c - 128 := by rw [List.length_take]; omega
            refine ⟨by rw [List.length_cons]; omega, .inl ⟨by omega, x.take (c - 128), ⟨dig_of_first (fun d hd => hx d (List.mem_of_mem_take hd)) (fun h => h3 (.inl ⟨by rw [← hlen]; exact h.1, h.2⟩)), by omega, by omega⟩, ?_⟩, by omega, by omega⟩
            rw [hlen, Nat.add_comm 1, List.take_succ_cons, show 128 + (c - 128) = c by omega]
theorem INum.free {a b : Int} {s t : List Nat} (h : INum a s) (g : INum b t) (ha : -9223372036854775808 ≤ a ∧ a ≤ 9223372036854775807) (hb : -9223372036854775808 ≤ b ∧ b ≤ 9223372036854775807) : t <+: s ↔ a = b := by
  constructor
  · rintro ⟨r, rfl⟩
    have e1 := getI_num g hb r
    have e2 := getI_num h ha []
    rw [List.append_nil, e1] at e2
    simp only [Prod.mk.injEq] at e2
    exact e2.1.symm
  · rintro rfl
    rw [h.unique g]
    exact List.prefix_refl _
/-! a text -/
def esc : List Nat → List Nat
  | [] => []
  | 0 :: x => 0 :: 255 :: esc x
  | (a + 1) :: x => (a + 1) :: esc x
def putT (l : List Nat) : List Nat := esc l ++ [0, 0]
theorem esc_append : ∀ l m : List Nat, esc (l ++ m) = esc l ++ esc m
  | [], m => rfl
  | 0 :: x, m => by simp [esc, esc_append x m]
  | (a + 1) :: x, m => by simp [esc, esc_append x m]
theorem esc_lt : ∀ l : List Nat, (∀ c ∈ l, c < 256) → ∀ c ∈ esc l, c < 256
  | [], _ => by simp [esc]
  | 0 :: x, h => by
    have ih := esc_lt x fun c hc => h c (List.mem_cons_of_mem _ hc)
    intro c hc
    simp only [esc, List.mem_cons] at hc
    rcases hc with rfl | rfl | hc
    · decide
    · decide
    · exact ih c hc
  | (a + 1) :: x, h => by
    have ih := esc_lt x fun c hc => h c (List.mem_cons_of_mem _ hc)
    intro c hc
    simp only [esc, List.mem_cons] at hc
    rcases hc with rfl | hc
    · exact h _ (by simp)
    · exact ih c hc
theorem putT_lt {l : List Nat} (h : ∀ c ∈ l, c < 256) : ∀ c ∈ putT l, c < 256 := by
  intro c hc
  rcases List.mem_append.1 hc with hc | hc
  · exact esc_lt l h c hc
  · simp at hc; omega
theorem lx_putT : ∀ (l m : List Nat), lx (putT l) (putT m) = lx l m
  | [], [] => rfl
  | [], 0 :: y => rfl
  | [], (b + 1) :: y => rfl
  | 0 :: x, [] => rfl
  | (a + 1) :: x, [] => rfl
  | 0 :: x, 0 :: y => by
    have := lx_putT x y
    simp only [putT] at this
    simp [putT, esc, lx, this]
  | 0 :: x, (b + 1) :: y => by simp [putT, esc, lx]
  | (a + 1) :: x, 0 :: y => by simp [putT, esc, lx]
  | (a + 1) :: x, (b + 1) :: y => by
    have := lx_putT x y
    simp only [putT] at this
    simp [putT, esc, lx, this]
theorem putT_inj : ∀ (l m r : List Nat), putT l = putT m ++ r → l = m ∧ r = []
  | [], [], r, h => by simpa [putT, esc] using h.symm
  | [], 0 :: y, r, h => by simp [putT, esc] at h
  | [], (b + 1) :: y, r, h => by simp [putT, esc] at h
  | 0 :: x, [], r, h => by simp [putT, esc] at h
  | (a + 1) :: x, [], r, h => by simp [putT, esc] at h
  | 0 :: x, 0 :: y, r, h => by
    have := putT_inj x y r (by simpa [putT, esc] using h)
    exact ⟨by rw [this.1], this.2⟩
  | 0 :: x, (b + 1) :: y, r, h => by simp [putT, esc] at h
  | (a + 1) :: x, 0 :: y, r, h => by simp [putT, esc] at h
  | (a + 1) :: x, (b + 1) :: y, r, h => by
    simp only [putT, esc, List.cons_append, List.cons.injEq] at h
    have := putT_inj x y r (by simpa [putT] using h.2)
    exact ⟨by rw [this.1, h.1], this.2⟩
theorem putT_free (l m : List Nat) : putT m <+: putT l ↔ l = m := by
  constructor
  · rintro ⟨r, h⟩
    exact (putT_inj l m r h.symm).1
  · rintro rfl
    exact List.prefix_refl _
/-- GetText read step by step: what was gathered, how far -/
inductive GT (s : List Nat) : List Nat → Nat → Prop
  | start : GT s [] 0
  | plain {o : List Nat} {i : Nat} : GT s o i → i < s.length → s.getD i 0 ≠ 0 → o.length < 1024 → GT s (o ++ [s.getD i 0]) (i + 1)
  | zero {o : List Nat} {i : Nat} : GT s o i → i + 1 < s.length → s.getD i 0 = 0 → s.getD (i + 1) 0 = 255 → o.length < 1024 → GT s (o ++ [0]) (i + 2)
theorem take_snoc' (l : List Nat) (k : Nat) (h : k < l.length) : l.take (k + 1) = l.take k ++ [l.getD k 0] := by
  rw [List.take_succ_eq_append_getElem h, List.getD_eq_getElem?_getD, List.getElem?_eq_getElem h]
  rfl
theorem esc_one {c : Nat} (h : c ≠ 0) : esc [c] = [c] := by
  cases c with
  | zero => exact absurd rfl h
  | succ a => rfl
theorem GT.at {s o : List Nat} {i : Nat} (h : GT s o i) : esc o = s.take i ∧ i ≤ s.length ∧ o.length ≤ 1024 ∧ o.length ≤ i := by
  induction h with
  | start => exact ⟨rfl, by omega, by simp, by simp⟩
  | @plain o i _ h1 h2 h3 ih =>
    obtain ⟨e, h4, h5, h6⟩ := ih
    refine ⟨?_, by omega, by rw [List.length_append, List.length_singleton]; omega, by rw [List.length_append, List.length_singleton]; omega⟩
    rw [esc_append, e, take_snoc' s i h1, esc_one h2]
  | @zero o i _ h1 h2 h3 h4 ih =>
    obtain ⟨e, h5, h6, h7⟩ := ih
    refine ⟨?_, by omega, by rw [List.length_append, List.length_singleton]; omega, by rw [List.length_append, List.length_singleton]; omega⟩
    rw [esc_append, e, take_snoc' s (i + 1) h1, take_snoc' s i (by omega), h2, h3, List.append_assoc]
    rfl
/-- what GetText answers: a text that ends at a mark, or an error -/
def GTEnd (s t : List Nat) (k c : Nat) : Prop :=
  (c = 0 ∧ ∃ i, GT s t i ∧ k = i + 2 ∧ i + 1 < s.length ∧ s.getD i 0 = 0 ∧ s.getD (i + 1) 0 = 0) ∨
  (t = [] ∧ k = 0 ∧ ((c = 3 ∧ ∃ o i, GT s o i ∧ (i = s.length ∨ (i + 1 = s.length ∧ s.getD i 0 = 0))) ∨
    (c = 4 ∧ ∃ o i, GT s o i ∧ i + 1 < s.length ∧ s.getD i 0 = 0 ∧ s.getD (i + 1) 0 ≠ 0 ∧ s.getD (i + 1) 0 ≠ 255) ∨
    (c = 2 ∧ ∃ o i, GT s o i ∧ o.length = 1024 ∧ i < s.length ∧ (s.getD i 0 ≠ 0 ∨ (i + 1 < s.length ∧ s.getD (i + 1) 0 = 255)))))
theorem GTEnd.ok {s t : List Nat} {k : Nat} (h : GTEnd s t k 0) : k ≤ s.length ∧ putT t = s.take k ∧ t.length ≤ 1024 := by
  rcases h with ⟨_, i, h1, rfl, h2, h3, h4⟩ | ⟨_, _, h⟩
  · obtain ⟨e, _, h5, _⟩ := h1.at
    refine ⟨by omega, ?_, h5⟩
    rw [putT, e, take_snoc' s (i + 1) h2, take_snoc' s i (by omega), h3, h4, List.append_assoc]
    rfl
  · rcases h with ⟨h, _⟩ | ⟨h, _⟩ | ⟨h, _⟩ <;> omega
theorem esc_length : ∀ l : List Nat, l.length ≤ (esc l).length
  | [] => Nat.le_refl _
  | 0 :: x => by simp only [esc, List.length_cons]; have := esc_length x; omega
  | (a + 1) :: x => by simp only [esc, List.length_cons]; have := esc_length x; omega
theorem getD_append_right' (a b : List Nat) (j : Nat) : (a ++ b).getD (a.length + j) 0 = b.getD j 0 := by
  rw [List.getD_eq_getElem?_getD, List.getD_eq_getElem?_getD, List.getElem?_append_right (by omega)]
  congr 2
  omega
/-- how far one is in a text that was written: at a letter's beginning -/
theorem GT.within {l more o : List Nat} {i : Nat} (h : GT (putT l ++ more) o i) : ∃ d, l = o ++ d ∧ i = (esc o).length := by
  induction h with
  | start => exact ⟨l, rfl, rfl⟩
  | @plain o i hg h1 h2 h3 ih =>
    obtain ⟨d, rfl, rfl⟩ := ih
    have hs : putT (o ++ d) ++ more = esc o ++ (esc d ++ [0, 0] ++ more) := by rw [putT, esc_append]; simp
    have hg2 := getD_append_right' (esc o) (esc d ++ [0, 0] ++ more) 0
    rw [← hs, Nat.add_zero] at hg2
    rw [hg2] at h2 ⊢
    cases d with
    | nil => simp [esc] at h2
    | cons a x =>
      cases a with
      | zero => simp [esc] at h2
      | succ a => exact ⟨x, by simp [esc], by simp [esc, esc_append]⟩
  | @zero o i hg h1 h2 h3 h4 ih =>
    obtain ⟨d, rfl, rfl⟩ := ih
    have hs : putT (o ++ d) ++ more = esc o ++ (esc d ++ [0, 0] ++ more) := by rw [putT, esc_append]; simp
    have hg2 := getD_append_right' (esc o) (esc d ++ [0, 0] ++ more) 1
    have hg1 := getD_append_right' (esc o) (esc d ++ [0, 0] ++ more) 0
    rw [← hs] at hg2 hg1
    rw [Nat.add_zero] at hg1
    rw [hg2] at h3
    rw [hg1] at h2
    cases d with
    | nil => simp [esc] at h3
    | cons a x =>
      cases a with
      | zero => exact ⟨x, by simp, by simp [esc, esc_append]⟩
      | succ a => simp [esc] at h2
/-- what was written is read back -/
theorem GTEnd.back {l more t : List Nat} {k c : Nat} (hl : l.length ≤ 1024) (h : GTEnd (putT l ++ more) t k c) : c = 0 ∧ t = l ∧ k = (putT l).length := by
  have split : ∀ o d : List Nat, l = o ++ d → putT l ++ more = esc o ++ (esc d ++ [0, 0] ++ more) := by rintro o d rfl; rw [putT, esc_append]; simp
  have at0 : ∀ o d : List Nat, l = o ++ d → ∀ j, (putT l ++ more).getD ((esc o).length + j) 0 = (esc d ++ [0, 0] ++ more).getD j 0 := by
    intro o d e j
    rw [split o d e]
    exact getD_append_right' _ _ _
  have len : (putT l ++ more).length = (esc l).length + 2 + more.length := by simp [putT]; omega
  rcases h with ⟨rfl, i, h1, rfl, h2, h3, h4⟩ | ⟨rfl, rfl, h⟩
  · obtain ⟨d, e, rfl⟩ := h1.within
    have g1 := at0 t d e 1
    have g0 := at0 t d e 0
    rw [Nat.add_zero] at g0
    rw [g0] at h3
    rw [g1] at h4
    cases d with
    | nil => rw [List.append_nil] at e; subst e; exact ⟨rfl, rfl, by simp [putT]⟩
    | cons a x =>
      cases a with
      | zero => simp [esc] at h4
      | succ a => simp [esc] at h3
  · exfalso
    rcases h with ⟨_, o, i, h1, h2⟩ | ⟨_, o, i, h1, h2, h3, h4, h5⟩ | ⟨_, o, i, h1, h2, h3, h4⟩
    · obtain ⟨d, e, rfl⟩ := h1.within
      have e2 : (esc l).length = (esc o).length + (esc d).length := by rw [e, esc_append, List.length_append]
      have g0 := at0 o d e 0
      rw [Nat.add_zero] at g0
      rcases h2 with h2 | ⟨h2, h3⟩
      · omega
      · omega
    · obtain ⟨d, e, rfl⟩ := h1.within
      have g1 := at0 o d e 1
      have g0 := at0 o d e 0
      rw [Nat.add_zero] at g0
      rw [g0] at h3
      rw [g1] at h4 h5
      cases d with
      | nil => simp [esc] at h4
      | cons a x =>
        cases a with
        | zero => simp [esc] at h5
        | succ a => simp [esc] at h3
    · obtain ⟨d, e, rfl⟩ := h1.within
      have el : d = [] := by
        cases d with
        | nil => rfl
        | cons a x => rw [e, List.length_append, List.length_cons] at hl; omega
      subst el
      have g1 := at0 o [] e 1
      have g0 := at0 o [] e 0
      rw [Nat.add_zero] at g0
      rcases h4 with h4 | ⟨_, h4⟩
      · rw [g0] at h4; simp [esc] at h4
      · rw [g1] at h4; simp [esc] at h4
end Plain
end Go.Proofs.YtpfmfigommmjiaaDoor
