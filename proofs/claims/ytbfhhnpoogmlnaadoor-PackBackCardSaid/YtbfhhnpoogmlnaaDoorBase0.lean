/- Joined: NumPlain, Mem, NumLib, Append, BytesOwn, Basis, MixPlain, Bits, MixW, Words, Drawn, StoreNew, MixSum, MixSumW, MixId, App64. -/
import Derived.WalkKit
import Derived.WalkSpells
import Derived.WalkLawsBesides
import Derived.Lib.ConvBytes
import Derived.Lib.SlBytesRow
import Derived.Lib.Hide
import Derived.Lib.TrimByte
import Derived.Lib.Replace
import Derived.Laws.OwnMore
import Derived.Deep.Draws
import Derived.Lib.BufferRead
import Derived.Test.YtbfhhnpoogmlnaaDoorRows
import Derived.Deep.MidRow
import Derived.Deep.RegionHeld3
import Derived.Lib.BufferWrite
import Derived.Lib.SlBuf
import Derived.BigQuiet
import Derived.Deep.QuietTactic
import Derived.Laws.CopyOwn
namespace Go.Proofs.YtbfhhnpoogmlnaaDoor
namespace Plain
/-! the order of strings of bytes -/
def lx : List Nat → List Nat → Bool
  | _, [] => false
  | [], _ :: _ => true
  | a :: x, b :: y => decide (a < b) || (a == b && lx x y)
theorem lx_cons (a b : Nat) (x y : List Nat) : lx (a :: x) (b :: y) = true ↔ a < b ∨ (a = b ∧ lx x y = true) := by simp [lx]
theorem lx_irrefl : ∀ l, lx l l = false
  | [] => rfl
  | a :: x => by simp [lx, lx_irrefl x]
/-! digits by 256 -/
def vl (l : List Nat) : Nat := l.foldl (fun n c => n * 256 + c) 0
theorem vl_foldl : ∀ (l : List Nat) (n : Nat), l.foldl (fun n c => n * 256 + c) n = n * 256 ^ l.length + vl l
  | [], n => by simp [vl]
  | a :: x, n => by
    rw [List.foldl_cons, vl_foldl x, show vl (a :: x) = x.foldl (fun n c => n * 256 + c) (0 * 256 + a) from rfl, vl_foldl x (0 * 256 + a)]
    rw [List.length_cons, Nat.pow_succ, Nat.add_mul, Nat.add_mul, Nat.mul_assoc, Nat.mul_comm 256]
    omega
theorem vl_cons (a : Nat) (x : List Nat) : vl (a :: x) = a * 256 ^ x.length + vl x := by
  rw [show vl (a :: x) = x.foldl (fun n c => n * 256 + c) (0 * 256 + a) from rfl, vl_foldl]
  simp
theorem vl_snoc (l : List Nat) (c : Nat) : vl (l ++ [c]) = vl l * 256 + c := by simp [vl]
theorem vl_lt : ∀ l : List Nat, (∀ c ∈ l, c < 256) → vl l < 256 ^ l.length
  | [], _ => by simp [vl]
  | a :: x, h => by
    have ih := vl_lt x fun c hc => h c (List.mem_cons_of_mem _ hc)
    have ha := h a (by simp)
    have h1 : (a + 1) * 256 ^ x.length ≤ 256 * 256 ^ x.length := Nat.mul_le_mul_right _ (by omega)
    rw [Nat.succ_mul] at h1
    rw [vl_cons]
    simp only [List.length_cons, Nat.pow_succ]
    omega
/-- digits: bytes, the first of which is not 0 -/
def Dig (l : List Nat) : Prop := (∀ c ∈ l, c < 256) ∧ (∀ a x, l = a :: x → a ≠ 0)
theorem Dig.nil : Dig [] := ⟨by simp, by simp⟩
theorem Dig.low {l : List Nat} (h : Dig l) (hl : l ≠ []) : 256 ^ (l.length - 1) ≤ vl l := by
  cases l with
  | nil => exact absurd rfl hl
  | cons a x =>
    have := h.2 a x rfl
    rw [vl_cons, List.length_cons, Nat.add_sub_cancel]
    have : 1 * 256 ^ x.length ≤ a * 256 ^ x.length := Nat.mul_le_mul_right _ (by omega)
    omega
theorem Dig.lt_of_length {l m : List Nat} (h : Dig l) (g : Dig m) (hl : l.length < m.length) : vl l < vl m := by
  have h1 := vl_lt l h.1
  have h2 := g.low (by rintro rfl; simp at hl)
  have h3 : 256 ^ l.length ≤ 256 ^ (m.length - 1) := Nat.pow_le_pow_right (by decide) (by omega)
  omega
theorem lx_vl : ∀ (l m : List Nat), l.length = m.length → (∀ c ∈ l, c < 256) → (∀ c ∈ m, c < 256) → (lx l m = true ↔ vl l < vl m)
  | [], [], _, _, _ => by simp [lx, vl]
  | a :: x, b :: y, hl, h1, h2 => by
    have hl' : x.length = y.length := by simpa using hl
    have ih := lx_vl x y hl' (fun c hc => h1 c (List.mem_cons_of_mem _ hc)) (fun c hc => h2 c (List.mem_cons_of_mem _ hc))
    have vx := vl_lt x fun c hc => h1 c (List.mem_cons_of_mem _ hc)
    have vy := vl_lt y fun c hc => h2 c (List.mem_cons_of_mem _ hc)
    rw [← hl'] at vy
    rw [lx_cons, ih, vl_cons, vl_cons, ← hl']
    rcases Nat.lt_trichotomy a b with h | h | h
    · have h3 : (a + 1) * 256 ^ x.length ≤ b * 256 ^ x.length := Nat.mul_le_mul_right _ h
      rw [Nat.succ_mul] at h3
      exact ⟨fun _ => by omega, fun _ => .inl h⟩
    · subst h
      exact ⟨fun h => by rcases h with h | ⟨_, h⟩ <;> omega, fun h => .inr ⟨rfl, by omega⟩⟩
    · have h3 : (b + 1) * 256 ^ x.length ≤ a * 256 ^ x.length := Nat.mul_le_mul_right _ h
      rw [Nat.succ_mul] at h3
      exact ⟨fun h => by rcases h with h | ⟨_, h⟩ <;> omega, fun _ => by omega⟩
theorem vl_inj : ∀ (l m : List Nat), l.length = m.length → (∀ c ∈ l, c < 256) → (∀ c ∈ m, c < 256) → vl l = vl m → l = m
  | [], [], _, _, _, _ => rfl
  | a :: x, b :: y, hl, h1, h2, e => by
    have hl' : x.length = y.length := by simpa using hl
    have vx := vl_lt x fun c hc => h1 c (List.mem_cons_of_mem _ hc)
    have vy := vl_lt y fun c hc => h2 c (List.mem_cons_of_mem _ hc)
    rw [← hl'] at vy
    rw [vl_cons, vl_cons, ← hl'] at e
    have hab : a = b := by
      rcases Nat.lt_trichotomy a b with h | h | h
      · have h3 : (a + 1) * 256 ^ x.length ≤ b * 256 ^ x.length := Nat.mul_le_mul_right _ h
        rw [Nat.succ_mul] at h3
        omega
      · exact h
      · have h3 : (b + 1) * 256 ^ x.length ≤ a * 256 ^ x.length := Nat.mul_le_mul_right _ h
        rw [Nat.succ_mul] at h3
        omega
    subst hab
    rw [vl_inj x y hl' (fun c hc => h1 c (List.mem_cons_of_mem _ hc)) (fun c hc => h2 c (List.mem_cons_of_mem _ hc)) (by omega)]
theorem Dig.inj {l m : List Nat} (h : Dig l) (g : Dig m) (e : vl l = vl m) : l = m := by
  rcases Nat.lt_trichotomy l.length m.length with hl | hl | hl
  · have := h.lt_of_length g hl; omega
  · exact vl_inj l m hl h.1 g.1 e
  · have := g.lt_of_length h hl; omega
/-- without the zeros in front -/
def strip : List Nat → List Nat
  | [] => []
  | 0 :: x => strip x
  | (a + 1) :: x => (a + 1) :: x
theorem strip_dig : ∀ l : List Nat, (∀ c ∈ l, c < 256) → Dig (strip l)
  | [], _ => Dig.nil
  | 0 :: x, h => strip_dig x fun c hc => h c (List.mem_cons_of_mem _ hc)
  | (a + 1) :: x, h => ⟨h, fun b y e => by simp only [strip, List.cons.injEq] at e; omega⟩
theorem strip_vl : ∀ l : List Nat, vl (strip l) = vl l
  | [] => rfl
  | 0 :: x => by rw [strip, strip_vl x, vl_cons]; omega
  | (a + 1) :: x => rfl
theorem strip_length : ∀ l : List Nat, (strip l).length ≤ l.length
  | [] => Nat.le_refl _
  | 0 :: x => by rw [strip, List.length_cons]; have := strip_length x; omega
  | (a + 1) :: x => Nat.le_refl _
/-- the digits of a number are known by what they are -/
def Digs (n : Nat) (l : List Nat) : Prop := Dig l ∧ l.length ≤ 8 ∧ vl l = n
theorem Digs.unique {n : Nat} {l m : List Nat} (h : Digs n l) (g : Digs n m) : l = m := h.1.inj g.1 (h.2.2.trans g.2.2.symm)
theorem Digs.lx {a b : Nat} {l m : List Nat} (h : Digs a l) (g : Digs b m) : lx (l.length :: l) (m.length :: m) = true ↔ a < b := by
  rw [lx_cons, ← h.2.2, ← g.2.2]
  constructor
  · rintro (e | ⟨e, e2⟩)
    · exact h.1.lt_of_length g.1 e
    · exact (lx_vl l m e h.1.1 g.1.1).1 e2
  · intro e
    rcases Nat.lt_trichotomy l.length m.length with hl | hl | hl
    · exact .inl hl
    · exact .inr ⟨hl, (lx_vl l m hl h.1.1 g.1.1).2 e⟩
    · have := g.1.lt_of_length h.1 hl; omega
/-! a number -/
def Num (n : Nat) (s : List Nat) : Prop := ∃ l, Digs n l ∧ s = l.length :: l
theorem Num.lx {a b : Nat} {s t : List Nat} (h : Num a s) (g : Num b t) : Plain.lx s t = true ↔ a < b := by
  obtain ⟨l, hl, rfl⟩ := h
  obtain ⟨m, hm, rfl⟩ := g
  exact hl.lx hm
theorem Num.unique {n : Nat} {s t : List Nat} (h : Num n s) (g : Num n t) : s = t := by
  obtain ⟨l, hl, rfl⟩ := h
  obtain ⟨m, hm, rfl⟩ := g
  rw [hl.unique hm]
theorem Num.lt {n : Nat} {s : List Nat} (h : Num n s) : ∀ c ∈ s, c < 256 := by
  obtain ⟨l, hl, rfl⟩ := h
  intro c hc
  rcases List.mem_cons.1 hc with rfl | hc
  · have := hl.2.1; omega
  · exact hl.1.1 c hc
theorem Num.length {n : Nat} {s : List Nat} (h : Num n s) : 1 ≤ s.length ∧ s.length ≤ 9 := by
  obtain ⟨l, hl, rfl⟩ := h
  have := hl.2.1
  simp only [List.length_cons]
  omega
/-- what Get answers: the number, how many bytes, which error -/
def getN (s : List Nat) : Nat × Nat × Nat :=
  match s with
  | [] => (0, 0, 3)
  | k :: x =>
    if 8 < k then (0, 0, 4)
    else if x.length < k then (0, 0, 3)
    else if 0 < k ∧ x.getD 0 0 = 0 then (0, 0, 4)
    else (vl (x.take k), 1 + k, 0)
theorem getN_num {n : Nat} {s : List Nat} (h : Num n s) (more : List Nat) : getN (s ++ more) = (n, s.length, 0) := by
  obtain ⟨l, hl, rfl⟩ := h
  have h8 := hl.2.1
  rw [List.cons_append, getN, if_neg (by omega), if_neg (by rw [List.length_append]; omega), if_neg, List.take_left, hl.2.2, List.length_cons, Nat.add_comm]
  rintro ⟨h1, h2⟩
  cases l with
  | nil => simp at h1
  | cons a x =>
    simp only [List.cons_append, List.getD_cons_zero] at h2
    exact hl.1.2 a x rfl h2
theorem getN_back {s : List Nat} (hs : ∀ c ∈ s, c < 256) {n k : Nat} (h : getN s = (n, k, 0)) : k ≤ s.length ∧ Num n (s.take k) := by
  cases s with
  | nil => simp [getN] at h
  | cons c x =>
    rw [getN] at h
    split at h
    · simp at h
    · split at h
      · simp at h
      · split at h
        · simp at h
        · rename_i h1 h2 h3
          simp only [Prod.mk.injEq, and_true] at h
          obtain ⟨rfl, rfl⟩ := h
          have hlen : (x.take c).length = c := by rw [List.length_take]; omega
          refine ⟨by rw [List.length_cons]; omega, x.take c, ⟨⟨fun d hd => hs d (List.mem_cons_of_mem _ (List.mem_of_mem_take hd)), fun a y e => ?_⟩, by omega, rfl⟩, by rw [hlen, Nat.add_comm, List.take_succ_cons]⟩
          rintro rfl
          cases x with
          | nil => simp at e
          | cons b z =>
            cases c with
            | zero => simp at e
            | succ c =>
              simp only [List.take_succ_cons, List.cons.injEq] at e
              exact h3 ⟨by omega, by simpa using e.1⟩
theorem getN_err {s : List Nat} {n k c : Nat} (h : getN s = (n, k, c)) (hc : c ≠ 0) : n = 0 ∧ k = 0 := by
  cases s with
  | nil => simp [getN] at h; omega
  | cons a x =>
    rw [getN] at h
    split at h
    · simp at h; omega
    · split at h
      · simp at h; omega
      · split at h
        · simp at h; omega
        · simp at h; omega
theorem getN_bound (s : List Nat) : (getN s).2.1 ≤ s.length ∧ (getN s).2.1 ≤ 9 := by
  cases s with
  | nil => simp [getN]
  | cons a x =>
    rw [getN]
    split
    · simp
    · split
      · simp
      · split
        · simp
        · simp only [List.length_cons]; omega
/-- no beginning of another one -/
theorem Num.free {a b : Nat} {s t : List Nat} (h : Num a s) (g : Num b t) : t <+: s ↔ a = b := by
  constructor
  · rintro ⟨r, rfl⟩
    have e1 := getN_num g r
    have e2 := getN_num h []
    rw [List.append_nil, e1] at e2
    simp only [Prod.mk.injEq] at e2
    exact e2.1.symm
  · rintro rfl
    rw [h.unique g]
    exact List.prefix_refl _
/-! an integer -/
def flp (l : List Nat) : List Nat := l.map (255 - ·)
theorem flp_flp {l : List Nat} (h : ∀ c ∈ l, c < 256) : flp (flp l) = l := by
  unfold flp
  rw [List.map_map]
  conv => rhs; rw [← List.map_id l]
  apply List.map_congr_left
  intro c hc
  have := h c hc
  simp only [Function.comp, id]
  omega
theorem flp_lt (l : List Nat) : ∀ c ∈ flp l, c < 256 := by
  intro c hc
  obtain ⟨d, _, rfl⟩ := List.mem_map.1 hc
  omega
theorem lx_flp : ∀ (l m : List Nat), l.length = m.length → (∀ c ∈ l, c < 256) → (∀ c ∈ m, c < 256) → lx (flp l) (flp m) = lx m l
  | [], [], _, _, _ => rfl
  | a :: x, b :: y, hl, h1, h2 => by
    have ih := lx_flp x y (by simpa using hl) (fun c hc => h1 c (List.mem_cons_of_mem _ hc)) (fun c hc => h2 c (List.mem_cons_of_mem _ hc))
    have ha := h1 a (by simp)
    have hb := h2 b (by simp)
    show lx ((255 - a) :: flp x) ((255 - b) :: flp y) = lx (b :: y) (a :: x)
    rw [Bool.eq_iff_iff, lx_cons, lx_cons, ih]
    constructor
    · rintro (h | ⟨h, h'⟩)
      · exact .inl (by omega)
      · exact .inr ⟨by omega, h'⟩
    · rintro (h | ⟨h, h'⟩)
      · exact .inl (by omega)
      · exact .inr ⟨by omega, h'⟩
def INum (n : Int) (s : List Nat) : Prop :=
  (0 ≤ n ∧ ∃ l, Digs n.toNat l ∧ s = (128 + l.length) :: l) ∨ (n < 0 ∧ ∃ l, Digs (-1 - n).toNat l ∧ s = (127 - l.length) :: flp l)
theorem INum.unique {n : Int} {s t : List Nat} (h : INum n s) (g : INum n t) : s = t := by
  rcases h with ⟨h0, l, hl, rfl⟩ | ⟨h0, l, hl, rfl⟩ <;> rcases g with ⟨g0, m, hm, rfl⟩ | ⟨g0, m, hm, rfl⟩
  · rw [hl.unique hm]
  · omega
  · omega
  · rw [hl.unique hm]
theorem INum.lx {a b : Int} {s t : List Nat} (h : INum a s) (g : INum b t) : Plain.lx s t = true ↔ a < b := by
  rcases h with ⟨h0, l, hl, rfl⟩ | ⟨h0, l, hl, rfl⟩ <;> rcases g with ⟨g0, m, hm, rfl⟩ | ⟨g0, m, hm, rfl⟩
  · have := hl.lx hm
    rw [lx_cons] at this ⊢
    constructor
    · intro h
      have := this.1 (by rcases h with h | ⟨h, h'⟩; exact .inl (by omega); exact .inr ⟨by omega, h'⟩)
      omega
    · intro h
      rcases this.2 (by omega) with h | ⟨h, h'⟩
      · exact .inl (by omega)
      · exact .inr ⟨by omega, h'⟩
  · rw [lx_cons]
    exact ⟨fun h => by have := hm.2.1; omega, fun h => by omega⟩
  · rw [lx_cons]
    exact ⟨fun _ => by omega, fun _ => .inl (by have := hl.2.1; omega)⟩
  · have := hm.lx hl
    have h8 := hl.2.1
    have g8 := hm.2.1
    rw [lx_cons] at this ⊢
    constructor
    · intro h
      have := this.1 (by
        rcases h with h | ⟨h, h'⟩
        · exact .inl (by omega)
        · have e : l.length = m.length := by omega
          rw [lx_flp l m e hl.1.1 hm.1.1] at h'
          exact .inr ⟨e.symm, h'⟩)
      omega
    · intro h
      rcases this.2 (by omega) with h | ⟨h, h'⟩
      · exact .inl (by omega)
      · exact .inr ⟨by omega, by rw [lx_flp l m h.symm hl.1.1 hm.1.1]; exact h'⟩
theorem INum.lt {n : Int} {s : List Nat} (h : INum n s) : ∀ c ∈ s, c < 256 := by
  rcases h with ⟨_, l, hl, rfl⟩ | ⟨_, l, hl, rfl⟩ <;> intro c hc <;> rcases List.mem_cons.1 hc with rfl | hc
  · have := hl.2.1; omega
  · exact hl.1.1 c hc
  · omega
  · exact flp_lt l c hc
/-- what GetInt answers -/
def getI (s : List Nat) : Int × Nat × Nat :=
  match s with
  | [] => (0, 0, 3)
  | c :: x =>
    let k := if c < 128 then 127 - c else c - 128
    let d := if c < 128 then flp (x.take k) else x.take k
    if 8 < k then (0, 0, 4)
    else if x.length < k then (0, 0, 3)
    else if (0 < k ∧ d.getD 0 0 = 0) ∨ 9223372036854775807 < vl d then (0, 0, 4)
    else (if c < 128 then -1 - (vl d : Int) else (vl d : Int), 1 + k, 0)
theorem dig_first {l : List Nat} (h : Dig l) : ¬ (0 < l.length ∧ l.getD 0 0 = 0) := by
  rintro ⟨h1, h2⟩
  cases l with
  | nil => simp at h1
  | cons a x => exact h.2 a x rfl (by simpa using h2)
theorem getI_num {n : Int} {s : List Nat} (h : INum n s) (hn : -9223372036854775808 ≤ n ∧ n ≤ 9223372036854775807) (more : List Nat) : getI (s ++ more) = (n, s.length, 0) := by
  rcases h with ⟨h0, l, hl, rfl⟩ | ⟨h0, l, hl, rfl⟩
  · have h8 := hl.2.1
    have e1 : ¬ 128 + l.length < 128 := by omega
    have e2 : 128 + l.length - 128 = l.length := by omega
    have e3 : (l ++ more).take l.length = l := List.take_left
    have hv := hl.2.2
    simp only [List.cons_append, getI, e1, if_false, e2, e3]
    rw [if_neg (by omega), if_neg (by rw [List.length_append]; omega), if_neg (by rintro (h | h); exact dig_first hl.1 h; omega)]
    simp only [List.length_cons, Prod.mk.injEq, and_true]
    omega
  · have h8 := hl.2.1
    have e1 : 127 - l.length < 128 := by omega
    have e2 : 127 - (127 - l.length) = l.length := by omega
    have e4 : (flp l).length = l.length := by simp [flp]
    have e3 : (flp l ++ more).take l.length = flp l := by rw [← e4]; exact List.take_left
    have hv := hl.2.2
    simp only [List.cons_append, getI, e1, if_true, e2, e3, flp_flp hl.1.1]
    rw [if_neg (by omega), if_neg (by rw [List.length_append]; omega), if_neg (by rintro (h | h); exact dig_first hl.1 h; omega)]
    simp only [List.length_cons, Prod.mk.injEq, and_true, e4]
    omega
theorem flp_take (l : List Nat) (k : Nat) : flp (l.take k) = (flp l).take k := by simp [flp, List.map_take]
theorem dig_of_first {l : List Nat} (h : ∀ c ∈ l, c < 256) (h2 : ¬ (0 < l.length ∧ l.getD 0 0 = 0)) : Dig l := ⟨h, by
  rintro a x rfl ha
  exact h2 ⟨by simp, by simpa using ha⟩⟩
theorem getI_back {s : List Nat} (hs : ∀ c ∈ s, c < 256) {n : Int} {k : Nat} (h : getI s = (n, k, 0)) : k ≤ s.length ∧ INum n (s.take k) ∧ -9223372036854775808 ≤ n ∧ n ≤ 9223372036854775807 := by
  cases s with
  | nil => simp [getI] at h
  | cons c x =>
    have hc : c < 256 := hs c (by simp)
    have hx : ∀ d ∈ x, d < 256 := fun d hd => hs d (List.mem_cons_of_mem _ hd)
    by_cases e1 : c < 128
    · simp only [getI, e1, if_true] at h
      split at h
      · simp at h
      · split at h
        · simp at h
        · split at h
          · simp at h
          · rename_i h1 h2 h3
            simp only [Prod.mk.injEq, and_true] at h
            obtain ⟨rfl, rfl⟩ := h
            have hlen : (flp (x.take (127 - c))).length = 127 - c := by simp [flp]; omega
            refine ⟨by rw [List.length_cons]; omega, .inr ⟨by omega, flp (x.take (127 - c)), ⟨dig_of_first (flp_lt _) (fun h => h3 (.inl ⟨by rw [← hlen]; exact h.1, h.2⟩)), by omega, by omega⟩, ?_⟩, by omega, by omega⟩
            rw [hlen, flp_flp (fun d hd => hx d (List.mem_of_mem_take hd)), Nat.add_comm 1, List.take_succ_cons]
            congr 1
            omega
    · simp only [getI, e1, if_false] at h
      split at h
      · simp at h
      · split at h
        · simp at h
        · split at h
          · simp at h
          · rename_i h1 h2 h3
            simp only [Prod.mk.injEq, and_true] at h
            obtain ⟨rfl, rfl⟩ := h
            have hlen : (x.take (c - 128)).length = c - 128 := by rw [List.length_take]; omega
            refine ⟨by rw [List.length_cons]; omega, .inl ⟨by omega, x.take (c - 128), ⟨dig_of_first (fun d hd => hx d (List.mem_of_mem_take hd)) (fun h => h3 (.inl ⟨by rw [← hlen]; exact h.1, h.2⟩)), by omega, by omega⟩, ?_⟩, by omega, by omega⟩
            rw [hlen, Nat.add_comm 1, List.take_succ_cons, show 128 + (c - 128) = c by omega]
theorem INum.free {a b : Int} {s t : List Nat} (h : INum a s) (g : INum b t) (ha : -9223372036854775808 ≤ a ∧ a ≤ 9223372036854775807) (hb : -9223372036854775808 ≤ b ∧ b ≤ 9223372036854775807) : t <+: s ↔ a = b := by
  constructor
  · rintro ⟨r, rfl⟩
    have e1 := getI_num g hb r
    have e2 := getI_num h ha []
    rw [List.append_nil, e1] at e2
    simp only [Prod.mk.injEq] at e2
    exact e2.1.symm
  · rintro rfl
    rw [h.unique g]
    exact List.prefix_refl _
/-! a text -/
def esc : List Nat → List Nat
  | [] => []
  | 0 :: x => 0 :: 255 :: esc x
  | (a + 1) :: x => (a + 1) :: esc x
def putT (l : List Nat) : List Nat := esc l ++ [0, 0]
theorem esc_append : ∀ l m : List Nat, esc (l ++ m) = esc l ++ esc m
  | [], m => rfl
  | 0 :: x, m => by simp [esc, esc_append x m]
  | (a + 1) :: x, m => by simp [esc, esc_append x m]
theorem esc_lt : ∀ l : List Nat, (∀ c ∈ l, c < 256) → ∀ c ∈ esc l, c < 256
  | [], _ => by simp [esc]
  | 0 :: x, h => by
    have ih := esc_lt x fun c hc => h c (List.mem_cons_of_mem _ hc)
    intro c hc
    simp only [esc, List.mem_cons] at hc
    rcases hc with rfl | rfl | hc
    · decide
    · decide
    · exact ih c hc
  | (a + 1) :: x, h => by
    have ih := esc_lt x fun c hc => h c (List.mem_cons_of_mem _ hc)
    intro c hc
    simp only [esc, List.mem_cons] at hc
    rcases hc with rfl | hc
    · exact h _ (by simp)
    · exact ih c hc
theorem putT_lt {l : List Nat} (h : ∀ c ∈ l, c < 256) : ∀ c ∈ putT l, c < 256 := by
  intro c hc
  rcases List.mem_append.1 hc with hc | hc
  · exact esc_lt l h c hc
  · simp at hc; omega
theorem lx_putT : ∀ (l m : List Nat), lx (putT l) (putT m) = lx l m
  | [], [] => rfl
  | [], 0 :: y => rfl
  | [], (b + 1) :: y => rfl
  | 0 :: x, [] => rfl
  | (a + 1) :: x, [] => rfl
  | 0 :: x, 0 :: y => by
    have := lx_putT x y
    simp only [putT] at this
    simp [putT, esc, lx, this]
  | 0 :: x, (b + 1) :: y => by simp [putT, esc, lx]
  | (a + 1) :: x, 0 :: y => by simp [putT, esc, lx]
  | (a + 1) :: x, (b + 1) :: y => by
    have := lx_putT x y
    simp only [putT] at this
    simp [putT, esc, lx, this]
theorem putT_inj : ∀ (l m r : List Nat), putT l = putT m ++ r → l = m ∧ r = []
  | [], [], r, h => by simpa [putT, esc] using h.symm
  | [], 0 :: y, r, h => by simp [putT, esc] at h
  | [], (b + 1) :: y, r, h => by simp [putT, esc] at h
  | 0 :: x, [], r, h => by simp [putT, esc] at h
  | (a + 1) :: x, [], r, h => by simp [putT, esc] at h
  | 0 :: x, 0 :: y, r, h => by
    have := putT_inj x y r (by simpa [putT, esc] using h)
    exact ⟨by rw [this.1], this.2⟩
  | 0 :: x, (b + 1) :: y, r, h => by simp [putT, esc] at h
  | (a + 1) :: x, 0 :: y, r, h => by simp [putT, esc] at h
  | (a + 1) :: x, (b + 1) :: y, r, h => by
    simp only [putT, esc, List.cons_append, List.cons.injEq] at h
    have := putT_inj x y r (by simpa [putT] using h.2)
    exact ⟨by rw [this.1, h.1], this.2⟩
theorem putT_free (l m : List Nat) : putT m <+: putT l ↔ l = m := by
  constructor
  · rintro ⟨r, h⟩
    exact (putT_inj l m r h.symm).1
  · rintro rfl
    exact List.prefix_refl _
/-- GetText read step by step: what was gathered, how far -/
inductive GT (s : List Nat) : List Nat → Nat → Prop
  | start : GT s [] 0
  | plain {o : List Nat} {i : Nat} : GT s o i → i < s.length → s.getD i 0 ≠ 0 → o.length < 1024 → GT s (o ++ [s.getD i 0]) (i + 1)
  | zero {o : List Nat} {i : Nat} : GT s o i → i + 1 < s.length → s.getD i 0 = 0 → s.getD (i + 1) 0 = 255 → o.length < 1024 → GT s (o ++ [0]) (i + 2)
theorem take_snoc' (l : List Nat) (k : Nat) (h : k < l.length) : l.take (k + 1) = l.take k ++ [l.getD k 0] := by
  rw [List.take_succ_eq_append_getElem h, List.getD_eq_getElem?_getD, List.getElem?_eq_getElem h]
  rfl
theorem esc_one {c : Nat} (h : c ≠ 0) : esc [c] = [c] := by
  cases c with
  | zero => exact absurd rfl h
  | succ a => rfl
theorem GT.at {s o : List Nat} {i : Nat} (h : GT s o i) : esc o = s.take i ∧ i ≤ s.length ∧ o.length ≤ 1024 ∧ o.length ≤ i := by
  induction h with
  | start => exact ⟨rfl, by omega, by simp, by simp⟩
  | @plain o i _ h1 h2 h3 ih =>
    obtain ⟨e, h4, h5, h6⟩ := ih
    refine ⟨?_, by omega, by rw [List.length_append, List.length_singleton]; omega, by rw [List.length_append, List.length_singleton]; omega⟩
    rw [esc_append, e, take_snoc' s i h1, esc_one h2]
  | @zero o i _ h1 h2 h3 h4 ih =>
    obtain ⟨e, h5, h6, h7⟩ := ih
    refine ⟨?_, by omega, by rw [List.length_append, List.length_singleton]; omega, by rw [List.length_append, List.length_singleton]; omega⟩
    rw [esc_append, e, take_snoc' s (i + 1) h1, take_snoc' s i (by omega), h2, h3, List.append_assoc]
    rfl
/-- what GetText answers: a text that ends at a mark, or an error -/
def GTEnd (s t : List Nat) (k c : Nat) : Prop :=
  (c = 0 ∧ ∃ i, GT s t i ∧ k = i + 2 ∧ i + 1 < s.length ∧ s.getD i 0 = 0 ∧ s.getD (i + 1) 0 = 0) ∨
  (t = [] ∧ k = 0 ∧ ((c = 3 ∧ ∃ o i, GT s o i ∧ (i = s.length ∨ (i + 1 = s.length ∧ s.getD i 0 = 0))) ∨
    (c = 4 ∧ ∃ o i, GT s o i ∧ i + 1 < s.length ∧ s.getD i 0 = 0 ∧ s.getD (i + 1) 0 ≠ 0 ∧ s.getD (i + 1) 0 ≠ 255) ∨
    (c = 2 ∧ ∃ o i, GT s o i ∧ o.length = 1024 ∧ i < s.length ∧ (s.getD i 0 ≠ 0 ∨ (i + 1 < s.length ∧ s.getD (i + 1) 0 = 255)))))
theorem GTEnd.ok {s t : List Nat} {k : Nat} (h : GTEnd s t k 0) : k ≤ s.length ∧ putT t = s.take k ∧ t.length ≤ 1024 := by
  rcases h with ⟨_, i, h1, rfl, h2, h3, h4⟩ | ⟨_, _, h⟩
  · obtain ⟨e, _, h5, _⟩ := h1.at
    refine ⟨by omega, ?_, h5⟩
    rw [putT, e, take_snoc' s (i + 1) h2, take_snoc' s i (by omega), h3, h4, List.append_assoc]
    rfl
  · rcases h with ⟨h, _⟩ | ⟨h, _⟩ | ⟨h, _⟩ <;> omega
theorem esc_length : ∀ l : List Nat, l.length ≤ (esc l).length
  | [] => Nat.le_refl _
  | 0 :: x => by simp only [esc, List.length_cons]; have := esc_length x; omega
  | (a + 1) :: x => by simp only [esc, List.length_cons]; have := esc_length x; omega
theorem getD_append_right' (a b : List Nat) (j : Nat) : (a ++ b).getD (a.length + j) 0 = b.getD j 0 := by
  rw [List.getD_eq_getElem?_getD, List.getD_eq_getElem?_getD, List.getElem?_append_right (by omega)]
  congr 2
  omega
/-- how far one is in a text that was written: at a letter's beginning -/
theorem GT.within {l more o : List Nat} {i : Nat} (h : GT (putT l ++ more) o i) : ∃ d, l = o ++ d ∧ i = (esc o).length := by
  induction h with
  | start => exact ⟨l, rfl, rfl⟩
  | @plain o i hg h1 h2 h3 ih =>
    obtain ⟨d, rfl, rfl⟩ := ih
    have hs : putT (o ++ d) ++ more = esc o ++ (esc d ++ [0, 0] ++ more) := by rw [putT, esc_append]; simp
    have hg2 := getD_append_right' (esc o) (esc d ++ [0, 0] ++ more) 0
    rw [← hs, Nat.add_zero] at hg2
    rw [hg2] at h2 ⊢
    cases d with
    | nil => simp [esc] at h2
    | cons a x =>
      cases a with
      | zero => simp [esc] at h2
      | succ a => exact ⟨x, by simp [esc], by simp [esc, esc_append]⟩
  | @zero o i hg h1 h2 h3 h4 ih =>
    obtain ⟨d, rfl, rfl⟩ := ih
    have hs : putT (o ++ d) ++ more = esc o ++ (esc d ++ [0, 0] ++ more) := by rw [putT, esc_append]; simp
    have hg2 := getD_append_right' (esc o) (esc d ++ [0, 0] ++ more) 1
    have hg1 := getD_append_right' (esc o) (esc d ++ [0, 0] ++ more) 0
    rw [← hs] at hg2 hg1
    rw [Nat.add_zero] at hg1
    rw [hg2] at h3
    rw [hg1] at h2
    cases d with
    | nil => simp [esc] at h3
    | cons a x =>
      cases a with
      | zero => exact ⟨x, by simp, by simp [esc, esc_append]⟩
      | succ a => simp [esc] at h2
/-- what was written is read back -/
theorem GTEnd.back {l more t : List Nat} {k c : Nat} (hl : l.length ≤ 1024) (h : GTEnd (putT l ++ more) t k c) : c = 0 ∧ t = l ∧ k = (putT l).length := by
  have split : ∀ o d : List Nat, l = o ++ d → putT l ++ more = esc o ++ (esc d ++ [0, 0] ++ more) := by rintro o d rfl; rw [putT, esc_append]; simp
  have at0 : ∀ o d : List Nat, l = o ++ d → ∀ j, (putT l ++ more).getD ((esc o).length + j) 0 = (esc d ++ [0, 0] ++ more).getD j 0 := by
    intro o d e j
    rw [split o d e]
    exact getD_append_right' _ _ _
  have len : (putT l ++ more).length = (esc l).length + 2 + more.length := by simp [putT]; omega
  rcases h with ⟨rfl, i, h1, rfl, h2, h3, h4⟩ | ⟨rfl, rfl, h⟩
  · obtain ⟨d, e, rfl⟩ := h1.within
    have g1 := at0 t d e 1
    have g0 := at0 t d e 0
    rw [Nat.add_zero] at g0
    rw [g0] at h3
    rw [g1] at h4
    cases d with
    | nil => rw [List.append_nil] at e; subst e; exact ⟨rfl, rfl, by simp [putT]⟩
    | cons a x =>
      cases a with
      | zero => simp [esc] at h4
      | succ a => simp [esc] at h3
  · exfalso
    rcases h with ⟨_, o, i, h1, h2⟩ | ⟨_, o, i, h1, h2, h3, h4, h5⟩ | ⟨_, o, i, h1, h2, h3, h4⟩
    · obtain ⟨d, e, rfl⟩ := h1.within
      have e2 : (esc l).length = (esc o).length + (esc d).length := by rw [e, esc_append, List.length_append]
      have g0 := at0 o d e 0
      rw [Nat.add_zero] at g0
      rcases h2 with h2 | ⟨h2, h3⟩
      · omega
      · omega
    · obtain ⟨d, e, rfl⟩ := h1.within
      have g1 := at0 o d e 1
      have g0 := at0 o d e 0
      rw [Nat.add_zero] at g0
      rw [g0] at h3
      rw [g1] at h4 h5
      cases d with
      | nil => simp [esc] at h4
      | cons a x =>
        cases a with
        | zero => simp [esc] at h5
        | succ a => simp [esc] at h3
    · obtain ⟨d, e, rfl⟩ := h1.within
      have el : d = [] := by
        cases d with
        | nil => rfl
        | cons a x => rw [e, List.length_append, List.length_cons] at hl; omega
      subst el
      have g1 := at0 o [] e 1
      have g0 := at0 o [] e 0
      rw [Nat.add_zero] at g0
      rcases h4 with h4 | ⟨_, h4⟩
      · rw [g0] at h4; simp [esc] at h4
      · rw [g1] at h4; simp [esc] at h4
end Plain
end Go.Proofs.YtbfhhnpoogmlnaaDoor
namespace Go.Proofs.YtbfhhnpoogmlnaaDoor
open Go.RowKit
/-- the bytes of a string, as numbers -/
def strN (s : ByteArray) : List Nat := s.data.toList.map UInt8.toNat
theorem strN_length (s : ByteArray) : (strN s).length = s.size := by rw [strN, List.length_map, Array.length_toList]; rfl
theorem strN_lt (s : ByteArray) : ∀ c ∈ strN s, c < 256 := by
  intro c hc
  simp only [strN, List.mem_map] at hc
  obtain ⟨b, _, rfl⟩ := hc
  exact b.toNat_lt
theorem strN_getD (s : ByteArray) (j : Nat) : (s.data.toList.getD j 0).toNat = (strN s).getD j 0 := by
  simp only [strN, List.getD_eq_getElem?_getD, List.getElem?_map]
  cases s.data.toList[j]? <;> rfl
theorem bytesWorld_below {w : World} (e : TypeId) (s : ByteArray) : Below w.heap.size w (Lib.bytesWorld w e s) where
  os := rfl
  tape := rfl
  output := rfl
  size := by rw [Lib.bytesWorld_size]; omega
  block k hk := Lib.bytesWorld_at_old w e s k hk
theorem bytesWorld_cellN (w : World) (e : TypeId) (s : ByteArray) (j : Nat) (hj : j < s.size) : (Lib.bytesWorld w e s).cell? ⟨w.heap.size, j, none⟩ = some (.int .u8 (((strN s).getD j 0 : Nat) : Int)) := by
  rw [Lib.bytesWorld_cell w e s j hj, strN_getD]
theorem extract_strN (s : ByteArray) (a : Nat) : strN (s.extract a s.size) = (strN s).drop a := by
  unfold strN
  rw [Lib.extract_data, List.map_take, List.map_drop]
  exact List.take_of_length_le (by rw [List.length_drop, List.length_map, Array.length_toList]; exact Nat.le_refl _)
theorem extract_strN' (s : ByteArray) (a b : Nat) : strN (s.extract a b) = ((strN s).drop a).take (b - a) := by
  unfold strN
  rw [Lib.extract_data, List.map_take, List.map_drop]
theorem Below.next {B : Nat} {w w1 w2 : World} (h : Below B w w1) (hb : Below w1.heap.size w1 w2) (hB : B ≤ w.heap.size) : Below B w w2 :=
  h.trans (hb.mono (Nat.le_trans hB h.size))
theorem Below.step {w w1 w2 : World} (h : Below w.heap.size w w1) (hb : Below w1.heap.size w1 w2) : Below w.heap.size w w2 := Below.next h hb (Nat.le_refl _)
/-- a byte as a value -/
def bV (n : Nat) : Value := .int .u8 (n : Int)
/-- block B holds the bytes l, each may be written -/
def BRow (w : World) (e : TypeId) (B : Nat) (l : List Nat) : Prop := w.heap[B]? = some (.cells (l.map bV).toArray e (0, 0))
theorem BRow.cell {w : World} {e : TypeId} {B : Nat} {l : List Nat} (h : BRow w e B l) {k : Nat} (hk : k < l.length) : w.cell? ⟨B, k, none⟩ = some (.int .u8 ((l.getD k 0 : Nat) : Int)) := by
  rw [cell_of_row w B k _ e _ h]
  simp [List.getElem?_map, List.getD_eq_getElem?_getD, List.getElem?_eq_getElem hk, bV]
theorem BRow.frozen {w : World} {e : TypeId} {B : Nat} {l : List Nat} (h : BRow w e B l) (k : Nat) : w.frozen? ⟨B, k, none⟩ = false := frozen_of_row w B k _ e h
theorem BRow.drew {w : World} {e : TypeId} {B : Nat} {l : List Nat} (h : BRow w e B l) : BRow w.drew e B l := h
theorem BRow.lt {w : World} {e : TypeId} {B : Nat} {l : List Nat} (h : BRow w e B l) : B < w.heap.size := lt_of_block h
theorem BRow.below {w w' : World} {e : TypeId} {B : Nat} {l : List Nat} (h : BRow w e B l) (hb : Below w.heap.size w w') : BRow w' e B l := (hb.block B h.lt).trans h
theorem BRow.set {w : World} {e : TypeId} {B : Nat} {l : List Nat} (h : BRow w e B l) (k v : Nat) : BRow (w.setCell ⟨B, k, none⟩ (.int .u8 (v : Int))) e B (l.set k v) := by
  have := heap_setCell_same w B k _ e (.int .u8 (v : Int)) h
  unfold BRow
  rw [this]
  simp [List.map_set, bV]
theorem BRow.new (w : World) (e : TypeId) (l : List Nat) : BRow (w.alloc (.cells (l.map bV).toArray e)) e w.heap.size l := heap_alloc_new w _
theorem BRow.zeros (w : World) (e : TypeId) (n : Nat) : BRow (w.alloc (.cells (Array.replicate n (bV 0)) e)) e w.heap.size (List.replicate n 0) := by
  have := BRow.new w e (List.replicate n 0)
  simpa using this
theorem BRow.bytes {w : World} {e : TypeId} {B : Nat} {l : List Nat} (h : BRow w e B l) (s : ByteArray) (hs : strN s = l) : Lib.Bytes w B 0 s := by
  intro i hi
  subst hs
  have := h.cell (k := i) (by rw [strN_length]; exact hi)
  rw [Nat.zero_add, this, ← strN_getD]
  congr 3
  rw [List.getD_eq_getElem?_getD, List.getElem?_eq_getElem (by rw [Array.length_toList]; exact hi)]
  rfl
/-- the string of a list of bytes -/
def strOf (l : List Nat) : ByteArray := ⟨(l.map UInt8.ofNat).toArray⟩
theorem strN_strOf (l : List Nat) (h : ∀ c ∈ l, c < 256) : strN (strOf l) = l := by
  show ((l.map UInt8.ofNat).toArray.toList.map UInt8.toNat) = l
  rw [List.toList_toArray, List.map_map]
  conv => rhs; rw [← List.map_id l]
  apply List.map_congr_left
  intro c hc
  simp [Function.comp, Nat.mod_eq_of_lt (h c hc)]
theorem strOf_strN (s : ByteArray) : strOf (strN s) = s := by
  show (⟨((s.data.toList.map UInt8.toNat).map UInt8.ofNat).toArray⟩ : ByteArray) = s
  have : (s.data.toList.map UInt8.toNat).map UInt8.ofNat = s.data.toList := by
    rw [List.map_map]
    conv => rhs; rw [← List.map_id s.data.toList]
    apply List.map_congr_left
    intro c _
    simp
  rw [this, Array.toArray_toList]
theorem strOf_size (l : List Nat) : (strOf l).size = l.length := by
  show ((l.map UInt8.ofNat).toArray).size = _
  simp
theorem strN_inj {s t : ByteArray} (h : strN s = strN t) : s = t := by rw [← strOf_strN s, h, strOf_strN]
/-- 'make([]byte, c)' -/
theorem run_make_bytes {P : Program} (w : World) (t e : TypeId) (ht : P.underlying t = some (.slice e)) (hi : (P.info? e).map (fun i => (i.zero, i.size, i.bytes)) = some (some (.int .u8 0), 1, 1)) (c : Int) (h0 : 0 ≤ c) (hc : c ≤ 281474976710656) :
    (Instr.makeSlice t (.int .i64 c) (.int .i64 c)).run P w = .ok (.slice (some ⟨w.heap.size, 0, none⟩) c.toNat c.toNat) (w.alloc (.cells (Array.replicate c.toNat (bV 0)) e)) := by
  obtain ⟨i, hi, hz, hs, hb⟩ := info_parts hi
  have := run_make (P := P) w t e i (.int .u8 0) ht hi hz .i64 .i64 c c h0 (Int.le_refl _) (by rw [hb]; omega) (by omega)
  rw [this, hs]
  congr 3
  simp only [madeCells, Nat.mul_one]
  apply Array.ext
  · simp
  · intro k h1 h2
    simp [Value.cells, bV, Nat.mod_one]
/-- 'string(b)' of a row of bytes of its own -/
theorem run_string_of_row {P : Program} (w : World) (src e dst : TypeId) (hs : P.underlying src = some (.slice e)) (he : P.underlying e = some (.int .u8)) (hd : P.underlying dst = some .string) (B : Nat) (l : List Nat) (h : BRow w e B l) (hl : ∀ c ∈ l, c < 256) (cap : Nat) :
    (convert src dst (.slice (some ⟨B, 0, none⟩) l.length cap)).run P w = .ok (.string (strOf l)) w := by
  have := Lib.run_convert_whole (P := P) w src e dst hs he hd B 0 (strOf l) (h.bytes _ (strN_strOf l hl)) cap
  rw [strOf_size] at this
  exact this
end Go.Proofs.YtbfhhnpoogmlnaaDoor
namespace Go.Proofs.YtbfhhnpoogmlnaaDoor
open Go.RowKit Plain
theorem str_data (l : List Nat) : (strOf l).data.toList = l.map UInt8.ofNat := by simp [strOf]
theorem strip_lib : ∀ l : List Nat, (∀ c ∈ l, c < 256) → Lib.trimLeftB (l.map UInt8.ofNat) 0 = (strip l).map UInt8.ofNat
  | [], _ => rfl
  | 0 :: x, h => by
    have ih := strip_lib x fun c hc => h c (List.mem_cons_of_mem _ hc)
    unfold Lib.trimLeftB at ih ⊢
    rw [List.map_cons, List.dropWhile_cons, if_pos (by decide), ih]
    rfl
  | (a + 1) :: x, h => by
    have ha := h (a + 1) (by simp)
    unfold Lib.trimLeftB
    rw [List.map_cons, List.dropWhile_cons, if_neg]
    · rfl
    · intro e
      have e2 := congrArg UInt8.toNat (beq_iff_eq.1 e)
      rw [UInt8.toNat_ofNat', Nat.mod_eq_of_lt ha] at e2
      exact Nat.succ_ne_zero a e2
theorem trim_str (l : List Nat) (h : ∀ c ∈ l, c < 256) : (⟨(Lib.trimLeftB (strOf l).data.toList 0).toArray⟩ : ByteArray) = strOf (strip l) := by
  rw [str_data, strip_lib l h]
  rfl
theorem index_cons_ne (b c : UInt8) (l : List UInt8) (h : b ≠ c) : Lib.index (b :: l) [c] = if Lib.index l [c] == -1 then -1 else Lib.index l [c] + 1 := by
  have hp : ([c] : List UInt8).isPrefixOf (b :: l) = false := by simp [List.isPrefixOf, Ne.symm h]
  rw [Lib.index, hp]
  simp
theorem index_cons_eq (c : UInt8) (l : List UInt8) : Lib.index (c :: l) [c] = 0 := by
  rw [Lib.index]; simp [List.isPrefixOf]
/-- each c written as r -/
def sub1 (c : UInt8) (r : List UInt8) : List UInt8 → List UInt8
  | [] => []
  | b :: l => if b = c then r ++ sub1 c r l else b :: sub1 c r l
theorem replaceK_cons_ne (c : UInt8) (r : List UInt8) (b : UInt8) (l : List UInt8) (h : b ≠ c) : ∀ k, k = Lib.count l [c] → Lib.replaceK [c] r k (b :: l) = b :: Lib.replaceK [c] r k l
  | 0, _ => rfl
  | k + 1, hk => by
    obtain ⟨i, hi⟩ := Lib.index_of_count (s := l) (old := [c]) (by omega)
    have hi2 : Lib.index (b :: l) [c] = ((i + 1 : Nat) : Int) := by
      rw [index_cons_ne b c l h, hi]
      have : ¬ (((i : Nat) : Int) == -1) = true := fun e => by have := beq_iff_eq.1 e; omega
      rw [if_neg this]
      omega
    rw [Lib.replaceK_hit [c] r k l i hi, Lib.replaceK_hit [c] r k (b :: l) (i + 1) hi2]
    simp
theorem replaceK_sub1 (c : UInt8) (r : List UInt8) : ∀ (l : List UInt8), Lib.replaceK [c] r (Lib.count l [c]) l = sub1 c r l
  | [] => by rw [Lib.count_one]; rfl
  | b :: l => by
    have ih := replaceK_sub1 c r l
    by_cases h : b = c
    · subst h
      rw [Lib.count_cons_eq, Nat.add_comm, Lib.replaceK_hit [b] r _ (b :: l) 0 (index_cons_eq b l)]
      simp only [sub1, if_true, List.take_zero, List.nil_append, List.length_singleton, Nat.zero_add, List.drop_succ_cons, List.drop_zero, ih]
    · rw [Lib.count_cons_ne b c l h, replaceK_cons_ne c r b l h _ rfl, ih]
      simp [sub1, h]
theorem replaceAll_sub1 (c : UInt8) (r : List UInt8) (hr : [c] ≠ r) (l : List UInt8) : Lib.replaceAll l [c] r = sub1 c r l := by
  have hb : ¬ ([c] == r) = true := fun e => hr (beq_iff_eq.1 e)
  rw [Lib.replaceAll, Lib.replace, if_neg hb, ← replaceK_sub1 c r l]
  congr 1
theorem sub1_esc : ∀ l : List Nat, (∀ c ∈ l, c < 256) → sub1 0 [0, 255] (l.map UInt8.ofNat) = (esc l).map UInt8.ofNat
  | [], _ => rfl
  | 0 :: x, h => by
    have ih := sub1_esc x fun c hc => h c (List.mem_cons_of_mem _ hc)
    rw [List.map_cons, sub1, if_pos (by decide), ih]
    rfl
  | (a + 1) :: x, h => by
    have ih := sub1_esc x fun c hc => h c (List.mem_cons_of_mem _ hc)
    have ha := h (a + 1) (by simp)
    rw [List.map_cons, sub1, if_neg, ih]
    · rfl
    · intro e
      have e2 := congrArg UInt8.toNat e
      rw [UInt8.toNat_ofNat', Nat.mod_eq_of_lt ha] at e2
      exact Nat.succ_ne_zero a e2
theorem strN_data (s : ByteArray) : s.data.toList = (strN s).map UInt8.ofNat := by
  rw [← str_data, strOf_strN]
theorem esc_str (s : ByteArray) : (⟨(Lib.replaceAll s.data.toList [0] [0, 255]).toArray⟩ : ByteArray) = strOf (esc (strN s)) := by
  rw [replaceAll_sub1 0 [0, 255] (by decide), strN_data, sub1_esc _ (strN_lt s)]
  rfl
end Go.Proofs.YtbfhhnpoogmlnaaDoor
namespace Go.Proofs.YtbfhhnpoogmlnaaDoor
open Go.RowKit
/-- the cells of a block just made -/
theorem cells_new (w : World) (cs : Array Value) (t : TypeId) : ∀ (j : Nat) (u : Value), cs.toList[j]? = some u → (w.alloc (.cells cs t)).cell? ((⟨w.heap.size, 0, none⟩ : Addr).add j) = some u := by
  intro j u hu
  have e : ((⟨w.heap.size, 0, none⟩ : Addr).add j) = ⟨w.heap.size, j, none⟩ := by
    unfold Addr.add
    split
    · rename_i h; subst h; rfl
    · simp
  rw [e, cell_of_row _ _ _ _ _ _ (heap_alloc_new w (.cells cs t))]
  simpa using hu
theorem cells_new_at (w : World) (b : Nat) (hb : b = w.heap.size) (cs : Array Value) (t : TypeId) (news : List Value) (hn : news = cs.toList) : ∀ (j : Nat) (u : Value), news[j]? = some u → (w.alloc (.cells cs t)).cell? ((⟨b, 0, none⟩ : Addr).add j) = some u := by
  subst hb hn
  exact cells_new w cs t
theorem below_dn {B : Nat} {w w1 : World} (h : Below B w w1) (n : Nat) : Below B w (w1.drewN n) := ⟨h.os, h.tape, h.output, h.size, h.block⟩
theorem below_own {B base : Nat} {e : TypeId} {size n : Nat} {v : Value} {xs : List Value} {w0 w w1 : World} (h : Below B w0 w) (hg : w.grownBy w1 v.ownBlock) (hB : B ≤ w.heap.size) (hown : w.ownsRow base e size v n xs) (hbase : B ≤ base) : Below B w0 w1 :=
  h.grown hg hB fun k hk => Nat.le_trans hbase (hown.lt k hk).1
end Go.Proofs.YtbfhhnpoogmlnaaDoor
namespace Go.Proofs.YtbfhhnpoogmlnaaDoor
open Go.RowKit
theorem byte_get (s : ByteArray) (k : Nat) (h : k < s.size) : (s[k]).toNat = (strN s).getD k 0 := by
  rw [← strN_getD, List.getD_eq_getElem?_getD, List.getElem?_eq_getElem (by rw [Array.length_toList]; exact h)]
  rfl
/-- 'string(b)' of bytes of the call's own, nil let in -/
theorem run_string_own {P : Program} (w : World) (src e dst : TypeId) (hs : P.underlying src = some (.slice e)) (he : P.underlying e = some (.int .u8)) (hd : P.underlying dst = some .string) {base : Nat} {v : Value} {l : List Nat} (hl : ∀ c ∈ l, c < 256)
    (h : w.ownsRow base e 1 v l.length (l.map bV)) : (convert src dst v).run P w = .ok (.string (strOf l)) w := by
  rcases h.2 with ⟨rfl, h0⟩ | ⟨g, cap, cur, rfl, hb, hg, h3, h4, h5, h6⟩
  · obtain rfl := List.eq_nil_of_length_eq_zero h0
    exact Lib.run_convert_nil_bytes (P := P) w src dst e 0 hs he hd
  · have hbytes : Lib.Bytes w g 0 (strOf l) := by
      intro i hi
      rw [strOf_size] at hi
      rw [Nat.zero_add, cell_of_row _ _ _ _ _ _ hg]
      have h7 : (cur.toList.take (l.length * 1))[i]? = (l.map bV)[i]? := by rw [h6]
      rw [List.getElem?_take, if_pos (by omega), List.getElem?_map, List.getElem?_eq_getElem hi] at h7
      rw [← Array.getElem?_toList, h7]
      have hlt := hl _ (List.getElem_mem hi)
      have hb : ((strOf l)[i]'(by rw [strOf_size]; exact hi)).toNat = l[i] := by
        rw [byte_get, strN_strOf l hl, List.getD_eq_getElem?_getD, List.getElem?_eq_getElem hi]
        rfl
      rw [hb]
      rfl
    have := Lib.run_convert_whole (P := P) w src e dst hs he hd g 0 (strOf l) hbytes cap
    rwa [strOf_size] at this
end Go.Proofs.YtbfhhnpoogmlnaaDoor
namespace Go.Proofs.YtbfhhnpoogmlnaaDoor.Plain
def Lin (f : Nat → Nat) : Prop := ∀ a b, f (a ^^^ b) = f a ^^^ f b
theorem Lin.zero {f : Nat → Nat} (h : Lin f) : f 0 = 0 := by
  have := h 0 0
  simpa using this
theorem Lin.comp {f g : Nat → Nat} (hf : Lin f) (hg : Lin g) : Lin (fun x => f (g x)) := fun a b => by
  show f (g (a ^^^ b)) = _
  rw [hg, hf]
theorem Lin.xor {f g : Nat → Nat} (hf : Lin f) (hg : Lin g) : Lin (fun x => f x ^^^ g x) := fun a b => by
  show f (a ^^^ b) ^^^ g (a ^^^ b) = (f a ^^^ g a) ^^^ (f b ^^^ g b)
  rw [hf, hg]
  ac_rfl
theorem Lin.id : Lin (fun x => x) := fun _ _ => rfl
theorem Lin.shl (i : Nat) : Lin (fun x => x <<< i) := fun _ _ => Nat.shiftLeft_xor_distrib
theorem Lin.shr (i : Nat) : Lin (fun x => x >>> i) := fun _ _ => Nat.shiftRight_xor_distrib
theorem Lin.bit (i c : Nat) : Lin (fun x => bif x.testBit i then c else 0) := fun a b => by
  show (bif (a ^^^ b).testBit i then c else 0) = (bif a.testBit i then c else 0) ^^^ (bif b.testBit i then c else 0)
  rw [Nat.testBit_xor]
  cases a.testBit i <;> cases b.testBit i <;> simp
theorem xor_top {a n : Nat} (h : a < 2 ^ (n + 1)) (ht : a.testBit n = true) : a ^^^ 2 ^ n < 2 ^ n := by
  apply Nat.lt_pow_two_of_testBit
  intro i hi
  rw [Nat.testBit_xor]
  by_cases e : i = n
  · subst e; simp [ht]
  · have h1 : a.testBit i = false := Nat.testBit_lt_two_pow (Nat.lt_of_lt_of_le h (Nat.pow_le_pow_right (by omega) (by omega)))
    rw [h1, Nat.testBit_two_pow]
    simp; omega
theorem lt_of_top {a n : Nat} (h : a < 2 ^ (n + 1)) (ht : a.testBit n = false) : a < 2 ^ n := by
  apply Nat.lt_pow_two_of_testBit
  intro i hi
  by_cases e : i = n
  · subst e; exact ht
  · exact Nat.testBit_lt_two_pow (Nat.lt_of_lt_of_le h (Nat.pow_le_pow_right (by omega) (by omega)))
theorem lin_ext {f g : Nat → Nat} (hf : Lin f) (hg : Lin g) : ∀ n, (∀ i, i < n → f (2 ^ i) = g (2 ^ i)) → ∀ a, a < 2 ^ n → f a = g a := by
  intro n
  induction n with
  | zero =>
    intro _ a ha
    have : a = 0 := by omega
    rw [this, hf.zero, hg.zero]
  | succ n ih =>
    intro h a ha
    cases ht : a.testBit n with
    | false => exact ih (fun i hi => h i (by omega)) a (lt_of_top ha ht)
    | true =>
      have e : a = (a ^^^ 2 ^ n) ^^^ 2 ^ n := by rw [Nat.xor_assoc, Nat.xor_self, Nat.xor_zero]
      rw [e, hf, hg, h n (by omega), ih (fun i hi => h i (by omega)) _ (xor_top ha ht)]
end Go.Proofs.YtbfhhnpoogmlnaaDoor.Plain
namespace Go.Proofs.YtbfhhnpoogmlnaaDoor.Plain
def M64 : Nat := 18446744073709551616
def mixF : Nat := 11400714819323198485
def mixS : Nat := 13787848793156543929
/-- one step of the hash -/
def mstep (x b : Nat) : Nat :=
  let z := (x ^^^ b) * mixF % M64
  let u := (z ^^^ z / 2 ^ 29) * mixS % M64
  u ^^^ u / 2 ^ 32
/-- NEWTON: one round of the inverse of an odd number -/
def newt (a x : Nat) : Nat := x * ((2 + (M64 - a * x % M64)) % M64) % M64
def newtN (a : Nat) : Nat → Nat → Nat
  | 0, x => x
  | n + 1, x => newtN a n (newt a x)
def minv (a : Nat) : Nat := newtN a 6 a
def mundo (y b : Nat) : Nat :=
  let z := (y ^^^ y / 2 ^ 32) * minv mixS % M64
  let v := z ^^^ z / 2 ^ 29 ^^^ z / 2 ^ 58
  (v * minv mixF % M64) ^^^ b
theorem invS : mixS * minv mixS % M64 = 1 := by decide +kernel
theorem invF : mixF * minv mixF % M64 = 1 := by decide +kernel
theorem M64_eq : M64 = 2 ^ 64 := by decide
theorem xor_lt64 {a b : Nat} (ha : a < M64) (hb : b < M64) : a ^^^ b < M64 := by
  rw [M64_eq] at *
  exact Nat.xor_lt_two_pow ha hb
theorem mod_lt64 (a : Nat) : a % M64 < M64 := Nat.mod_lt _ (by decide)
theorem div_lt64 {a : Nat} (k : Nat) (h : a < M64) : a / k < M64 := Nat.lt_of_le_of_lt (Nat.div_le_self _ _) h
theorem mul_inv {u a i : Nat} (hu : u < M64) (h : a * i % M64 = 1) : (u * a % M64) * i % M64 = u := by
  rw [Nat.mod_mul_mod, Nat.mul_assoc, ← Nat.mul_mod_mod, h, Nat.mul_one, Nat.mod_eq_of_lt hu]
theorem xor_div (a b k : Nat) : (a ^^^ b) / 2 ^ k = a / 2 ^ k ^^^ b / 2 ^ k := by
  simp only [← Nat.shiftRight_eq_div_pow, Nat.shiftRight_xor_distrib]
theorem div_div_pow (a j k : Nat) : a / 2 ^ j / 2 ^ k = a / 2 ^ (j + k) := by rw [Nat.div_div_eq_div_mul, Nat.pow_add]
theorem div_big (a k : Nat) (h : a < M64) (hk : 64 ≤ k) : a / 2 ^ k = 0 := by
  apply Nat.div_eq_of_lt
  rw [M64_eq] at h
  exact Nat.lt_of_lt_of_le h (Nat.pow_le_pow_right (by decide) hk)
theorem back32 (u : Nat) (h : u < M64) : (u ^^^ u / 2 ^ 32) ^^^ (u ^^^ u / 2 ^ 32) / 2 ^ 32 = u := by
  rw [xor_div, div_div_pow, div_big u (32 + 32) h (by decide), Nat.xor_zero, Nat.xor_assoc, Nat.xor_self, Nat.xor_zero]
theorem back29 (z : Nat) (h : z < M64) : (z ^^^ z / 2 ^ 29) ^^^ (z ^^^ z / 2 ^ 29) / 2 ^ 29 ^^^ (z ^^^ z / 2 ^ 29) / 2 ^ 58 = z := by
  rw [xor_div, xor_div, div_div_pow, div_div_pow, div_big z (29 + 58) h (by decide), Nat.xor_zero]
  have : (z ^^^ z / 2 ^ 29) ^^^ (z / 2 ^ 29 ^^^ z / 2 ^ (29 + 29)) ^^^ z / 2 ^ 58 = z ^^^ ((z / 2 ^ 29 ^^^ z / 2 ^ 29) ^^^ (z / 2 ^ (29 + 29) ^^^ z / 2 ^ 58)) := by ac_rfl
  rw [this, Nat.xor_self, show 29 + 29 = 58 from rfl, Nat.xor_self]
  simp
theorem fore29 (z : Nat) (h : z < M64) : (z ^^^ z / 2 ^ 29 ^^^ z / 2 ^ 58) ^^^ (z ^^^ z / 2 ^ 29 ^^^ z / 2 ^ 58) / 2 ^ 29 = z := by
  rw [xor_div, xor_div, div_div_pow, div_div_pow, div_big z (58 + 29) h (by decide), Nat.xor_zero]
  have : (z ^^^ z / 2 ^ 29 ^^^ z / 2 ^ 58) ^^^ (z / 2 ^ 29 ^^^ z / 2 ^ (29 + 29)) = z ^^^ ((z / 2 ^ 29 ^^^ z / 2 ^ 29) ^^^ (z / 2 ^ 58 ^^^ z / 2 ^ (29 + 29))) := by ac_rfl
  rw [this, Nat.xor_self, show 29 + 29 = 58 from rfl, Nat.xor_self]
  simp
theorem mundo_step (x b : Nat) (hx : x < M64) (hb : b < M64) : mundo (mstep x b) b = x := by
  have hxb := xor_lt64 hx hb
  unfold mundo mstep
  simp only
  generalize hz : (x ^^^ b) * mixF % M64 = z
  have hz' : z < M64 := hz ▸ mod_lt64 _
  have hw : z ^^^ z / 2 ^ 29 < M64 := xor_lt64 hz' (div_lt64 _ hz')
  generalize hu : (z ^^^ z / 2 ^ 29) * mixS % M64 = u
  have hu' : u < M64 := hu ▸ mod_lt64 _
  rw [back32 u hu', ← hu, mul_inv hw invS, back29 z hz', ← hz, mul_inv hxb invF, Nat.xor_assoc, Nat.xor_self, Nat.xor_zero]
theorem invS' : minv mixS * mixS % M64 = 1 := by rw [Nat.mul_comm]; exact invS
theorem invF' : minv mixF * mixF % M64 = 1 := by rw [Nat.mul_comm]; exact invF
theorem mstep_undo (y b : Nat) (hy : y < M64) : mstep (mundo y b) b = y := by
  have hy2 := xor_lt64 hy (div_lt64 (2 ^ 32) hy)
  unfold mundo mstep
  simp only
  generalize hz : (y ^^^ y / 2 ^ 32) * minv mixS % M64 = z
  have hz' : z < M64 := hz ▸ mod_lt64 _
  have hv : z ^^^ z / 2 ^ 29 ^^^ z / 2 ^ 58 < M64 := xor_lt64 (xor_lt64 hz' (div_lt64 _ hz')) (div_lt64 _ hz')
  have h1 : ((z ^^^ z / 2 ^ 29 ^^^ z / 2 ^ 58) * minv mixF % M64 ^^^ b) ^^^ b = (z ^^^ z / 2 ^ 29 ^^^ z / 2 ^ 58) * minv mixF % M64 := by
    rw [Nat.xor_assoc, Nat.xor_self, Nat.xor_zero]
  rw [h1, mul_inv hv invF', fore29 z hz', ← hz, mul_inv hy2 invS', back32 y hy]
theorem mstep_lt (x b : Nat) : mstep x b < M64 := by
  unfold mstep
  simp only
  exact xor_lt64 (mod_lt64 _) (div_lt64 _ (mod_lt64 _))
theorem mundo_lt (y b : Nat) (hb : b < M64) : mundo y b < M64 := xor_lt64 (mod_lt64 _) hb
theorem minv_lt (a : Nat) : minv a < M64 := mod_lt64 _
/-- for one block the states correspond -/
theorem mstep_inj_state {x y b : Nat} (hx : x < M64) (hy : y < M64) (hb : b < M64) (h : mstep x b = mstep y b) : x = y := by
  rw [← mundo_step x b hx hb, h, mundo_step y b hy hb]
theorem mstep_comm (x b : Nat) : mstep x b = mstep b x := by unfold mstep; rw [Nat.xor_comm x b]
theorem mstep_inj_block {x b c : Nat} (hx : x < M64) (hb : b < M64) (hc : c < M64) (h : mstep x b = mstep x c) : b = c := by
  rw [mstep_comm x b, mstep_comm x c] at h
  exact mstep_inj_state hb hc hx h
end Go.Proofs.YtbfhhnpoogmlnaaDoor.Plain
namespace Go.Proofs.YtbfhhnpoogmlnaaDoor
theorem wraps_i64 (n : Int) (h₀ : 0 ≤ n) (h₁ : n < 2 ^ 63) : IntKind.i64.wrap n = n := by
  rw [IntKind.wrap_i64]; omega
theorem i64_and_nat (a b : Nat) (ha : a < 9223372036854775808) (hb : b < 9223372036854775808) : bits .and .i64 (a : Int) (b : Int) = ((a &&& b : Nat) : Int) :=
  (bits_nat .i64 63 (by decide) wraps_i64 a b ha hb).1
theorem i64_or_nat (a b : Nat) (ha : a < 9223372036854775808) (hb : b < 9223372036854775808) : bits .or .i64 (a : Int) (b : Int) = ((a ||| b : Nat) : Int) :=
  (bits_nat .i64 63 (by decide) wraps_i64 a b ha hb).2
theorem ret_int {k : IntKind} {a b : Int} (h : a = b) : Ending.returned (.int k a) = .returned (.int k b) := by rw [h]
theorem ret_bool {a b : Bool} (h : a = b) : Ending.returned (.bool a) = .returned (.bool b) := by rw [h]
theorem and1_nat (A : Nat) : (A &&& 1) = bif A.testBit 0 then 1 else 0 := by
  rw [Nat.and_one_is_mod, Nat.testBit_zero]
  by_cases h : A % 2 = 1
  · simp [h]
  · have : A % 2 = 0 := by omega
    simp [this]
theorem natEq {x y : Nat} (h : x = y) : ((x : Int) == (y : Int)) = true := by subst h; simp
theorem natNe {x y : Nat} (h : x = y) : ((x : Int) != (y : Int)) = false := by subst h; simp
theorem div_pow_nat (m v : Nat) : ((m : Int) / 2 ^ v) = ((m / 2 ^ v : Nat) : Int) := by simp
theorem testBit_and1 (m v : Nat) : (m / 2 ^ v) &&& 1 = bif m.testBit v then 1 else 0 := by
  rw [and1_nat, ← Nat.shiftRight_eq_div_pow, Nat.testBit_shiftRight]; rfl
theorem bit_u64 (m v : Nat) (h : m < 18446744073709551616) : bits .and .u64 ((m : Int) / 2 ^ v) 1 = ((bif m.testBit v then 1 else 0 : Nat) : Int) := by
  rw [div_pow_nat, ← testBit_and1]
  exact bits_and_u64_nat _ 1 (Nat.lt_of_le_of_lt (Nat.div_le_self _ _) h) (by decide)
theorem bit_u32 (m v : Nat) (h : m < 4294967296) : bits .and .u32 ((m : Int) / 2 ^ v) 1 = ((bif m.testBit v then 1 else 0 : Nat) : Int) := by
  rw [div_pow_nat, ← testBit_and1]
  exact u32_and_nat _ 1 (Nat.lt_of_le_of_lt (Nat.div_le_self _ _) h) (by decide)
theorem shl_u64 (c k : Nat) (h : c <<< k < 18446744073709551616) : IntKind.u64.wrap ((c : Int) * 2 ^ k) = ((c <<< k : Nat) : Int) := by
  rw [IntKind.wrap_u64, Nat.shiftLeft_eq]
  rw [Nat.shiftLeft_eq] at h
  have : ((c : Int) * 2 ^ k) = ((c * 2 ^ k : Nat) : Int) := by simp
  rw [this]
  omega
theorem byteOf {a : Int} (h : (Lit.int .u8 a).wf = true) : ∃ n : Nat, a = n ∧ n < 256 := by
  have hx : 0 ≤ a ∧ a ≤ 255 := by simpa [Lit.wf, IntKind.min, IntKind.max, IntKind.signed, IntKind.bits] using h
  exact ⟨a.toNat, by omega, by omega⟩
theorem u32Of {a : Int} (h : (Lit.int .u32 a).wf = true) : ∃ n : Nat, a = n ∧ n < 4294967296 := by
  have hx : 0 ≤ a ∧ a ≤ 4294967295 := by simpa [Lit.wf, IntKind.min, IntKind.max, IntKind.signed, IntKind.bits] using h
  exact ⟨a.toNat, by omega, by omega⟩
theorem u64Of {a : Int} (h : (Lit.int .u64 a).wf = true) : ∃ n : Nat, a = n ∧ n < 18446744073709551616 := by
  have hx : 0 ≤ a ∧ a ≤ 18446744073709551615 := by simpa [Lit.wf, IntKind.min, IntKind.max, IntKind.signed, IntKind.bits] using h
  exact ⟨a.toNat, by omega, by omega⟩
theorem i64Of {a : Int} (h : (Lit.int .i64 a).wf = true) : -9223372036854775808 ≤ a ∧ a ≤ 9223372036854775807 := by
  simpa [Lit.wf, IntKind.min, IntKind.max, IntKind.signed, IntKind.bits] using h
end Go.Proofs.YtbfhhnpoogmlnaaDoor
namespace Go.Proofs.YtbfhhnpoogmlnaaDoor
open Go.RowKit Plain
theorem m64 : M64 = 18446744073709551616 := by decide
theorem lt64 {a : Nat} (h : a < M64) : a < 18446744073709551616 := m64 ▸ h
theorem wmul (X C : Nat) : IntKind.u64.wrap ((X : Int) * (C : Int)) = ((X * C % M64 : Nat) : Int) := by
  rw [IntKind.wrap_u64, m64, Int.natCast_emod, Int.natCast_mul]; rfl
theorem wmod (X : Nat) : IntKind.u64.wrap (X : Int) = ((X % M64 : Nat) : Int) := by
  rw [IntKind.wrap_u64, m64, Int.natCast_emod]; rfl
theorem wsub (X : Nat) (h : X < M64) : IntKind.u64.wrap (2 - (X : Int)) = (((2 + (M64 - X)) % M64 : Nat) : Int) := by
  rw [m64] at *
  rw [IntKind.wrap_u64]; omega
theorem bxor {x b : Nat} (hx : x < M64) (hb : b < M64) : bits .xor .u64 (x : Int) (b : Int) = ((x ^^^ b : Nat) : Int) := by
  rw [m64] at *; exact bits_xor_u64_nat x b hx hb
theorem bxshift (k : Nat) {x : Nat} (hx : x < M64) : bits .xor .u64 (x : Int) ((x : Int) / (k : Int)) = ((x ^^^ x / k : Nat) : Int) := by
  rw [← Int.natCast_ediv]; exact bxor hx (div_lt64 k hx)
theorem castF : (11400714819323198485 : Int) = ((mixF : Nat) : Int) := by unfold mixF; simp
theorem castS : (13787848793156543929 : Int) = ((mixS : Nat) : Int) := by unfold mixS; simp
theorem cast29 : (536870912 : Int) = ((2 ^ 29 : Nat) : Int) := by simp
theorem cast32 : (4294967296 : Int) = ((2 ^ 32 : Nat) : Int) := by simp
theorem cast58 : (288230376151711744 : Int) = ((2 ^ 58 : Nat) : Int) := by simp
theorem mstep_val (x b : Nat) (hx : x < M64) (hb : b < M64) :
    bits .xor .u64 (IntKind.u64.wrap (bits .xor .u64 (IntKind.u64.wrap (bits .xor .u64 (x : Int) (b : Int) * 11400714819323198485)) (IntKind.u64.wrap (bits .xor .u64 (x : Int) (b : Int) * 11400714819323198485) / 536870912) * 13787848793156543929)) (IntKind.u64.wrap (bits .xor .u64 (IntKind.u64.wrap (bits .xor .u64 (x : Int) (b : Int) * 11400714819323198485)) (IntKind.u64.wrap (bits .xor .u64 (x : Int) (b : Int) * 11400714819323198485) / 536870912) * 13787848793156543929) / 4294967296) = ((mstep x b : Nat) : Int) := by
  rw [bxor hx hb, castF, castS, cast29, cast32, wmul]
  unfold mstep
  generalize hz : (x ^^^ b) * mixF % M64 = z
  have hz' : z < M64 := hz ▸ mod_lt64 _
  rw [bxshift (2 ^ 29) hz', wmul]
  generalize hu : (z ^^^ z / 2 ^ 29) * mixS % M64 = u
  have hu' : u < M64 := hu ▸ mod_lt64 _
  rw [bxshift (2 ^ 32) hu']
  simp only [hu]
set_option maxRecDepth 100000 in
theorem step_any (x b : Nat) (w : World) (hx : x < M64) (hb : b < M64) :
    Calls Tryd.prog 177 #[.int .u64 x, .int .u64 b] w fun e w' => e = .returned (.int .u64 (mstep x b)) ∧ w = w' := by
  go_enter Tryd.func177, Tryd.ntmps177
  go_wp2
  go_ret
  exact ⟨ret_int (mstep_val x b hx hb), rfl⟩
theorem step_int (x b : Int) (w : World) (hx0 : 0 ≤ x) (hx : x < 18446744073709551616) (hb0 : 0 ≤ b) (hb : b < 18446744073709551616) :
    Calls Tryd.prog 177 #[.int .u64 x, .int .u64 b] w fun e w' => e = .returned (.int .u64 (mstep x.toNat b.toNat)) ∧ w = w' := by
  obtain ⟨A, rfl⟩ := Int.eq_ofNat_of_zero_le hx0
  obtain ⟨B, rfl⟩ := Int.eq_ofNat_of_zero_le hb0
  exact step_any A B w (by rw [m64]; omega) (by rw [m64]; omega)
theorem newt_val (a x : Nat) : IntKind.u64.wrap ((x : Int) * IntKind.u64.wrap (2 - IntKind.u64.wrap ((a : Int) * (x : Int)))) = ((newt a x : Nat) : Int) := by
  rw [wmul, wsub _ (mod_lt64 _), wmul]
  rfl
theorem newtN_step (a n y : Nat) (h : 0 < n) : newtN a n y = newtN a (n - 1) (newt a y) := by
  cases n with
  | zero => omega
  | succ n => rfl
theorem mundo_val (y b : Nat) (hy : y < M64) (hb : b < M64) :
    bits .xor .u64 (IntKind.u64.wrap (bits .xor .u64 (bits .xor .u64 (IntKind.u64.wrap (bits .xor .u64 (y : Int) ((y : Int) / 4294967296) * ((minv mixS : Nat) : Int))) (IntKind.u64.wrap (bits .xor .u64 (y : Int) ((y : Int) / 4294967296) * ((minv mixS : Nat) : Int)) / 536870912)) (IntKind.u64.wrap (bits .xor .u64 (y : Int) ((y : Int) / 4294967296) * ((minv mixS : Nat) : Int)) / 288230376151711744) * ((minv mixF : Nat) : Int))) (b : Int) = ((mundo y b : Nat) : Int) := by
  rw [cast29, cast32, cast58, bxshift (2 ^ 32) hy, wmul]
  unfold mundo
  generalize hz : (y ^^^ y / 2 ^ 32) * minv mixS % M64 = z
  have hz' : z < M64 := hz ▸ mod_lt64 _
  rw [bxshift (2 ^ 29) hz', ← Int.natCast_ediv, bxor (xor_lt64 hz' (div_lt64 _ hz')) (div_lt64 _ hz'), wmul, bxor (mod_lt64 _) hb]
theorem step12 : mstep 1 2 ≠ 0 := by decide +kernel
theorem step12_ne : (((mstep 1 2 : Nat) : Int) != 0) = true := by
  have h := step12
  generalize mstep 1 2 = n at h
  simp; omega
end Go.Proofs.YtbfhhnpoogmlnaaDoor
namespace Go.Proofs.YtbfhhnpoogmlnaaDoor
open Go.RowKit
def uV (n : Nat) : Value := .int .u64 (n : Int)
/-- a filter's cells -/
def uC (l : List Nat) : Array Value := (l.map uV).toArray
theorem uC_size (l : List Nat) : (uC l).size = l.length := by simp [uC]
def URow (w : World) (e : TypeId) (B : Nat) (l : List Nat) : Prop := w.heap[B]? = some (.cells (uC l) e (0, 0))
theorem URow.cell {w : World} {e : TypeId} {B : Nat} {l : List Nat} (h : URow w e B l) {k : Nat} (hk : k < l.length) : w.cell? ⟨B, k, none⟩ = some (.int .u64 ((l.getD k 0 : Nat) : Int)) := by
  rw [cell_of_row w B k _ e _ h]
  simp [uC, List.getElem?_map, List.getD_eq_getElem?_getD, List.getElem?_eq_getElem hk, uV]
theorem URow.frozen {w : World} {e : TypeId} {B : Nat} {l : List Nat} (h : URow w e B l) (k : Nat) : w.frozen? ⟨B, k, none⟩ = false := frozen_of_row w B k _ e h
theorem URow.drew {w : World} {e : TypeId} {B : Nat} {l : List Nat} (h : URow w e B l) : URow w.drew e B l := h
theorem URow.lt {w : World} {e : TypeId} {B : Nat} {l : List Nat} (h : URow w e B l) : B < w.heap.size := lt_of_block h
theorem URow.below {w w' : World} {e : TypeId} {B : Nat} {l : List Nat} (h : URow w e B l) (hb : Below w.heap.size w w') : URow w' e B l := (hb.block B h.lt).trans h
theorem URow.set {w : World} {e : TypeId} {B : Nat} {l : List Nat} (h : URow w e B l) (k v : Nat) : URow (w.setCell ⟨B, k, none⟩ (.int .u64 (v : Int))) e B (l.set k v) := by
  have := heap_setCell_same w B k _ e (.int .u64 (v : Int)) h
  unfold URow
  rw [this]
  simp [uC, List.map_set, uV]
theorem URow.new (w : World) (e : TypeId) (l : List Nat) : URow (w.alloc (.cells (uC l) e)) e w.heap.size l := heap_alloc_new w _
theorem URow.alloc {w : World} {e : TypeId} {B : Nat} {l : List Nat} (h : URow w e B l) (o : Obj) : URow (w.alloc o) e B l := (Below.heap_alloc w o B h.lt).trans h
theorem URow.other {w : World} {e : TypeId} {B : Nat} {l : List Nat} (h : URow w e B l) {a : Addr} (ha : B ≠ a.block) (v : Value) : URow (w.setCell a v) e B l := (heap_setCell_other w a B v ha).trans h
theorem heap_setCells (b : Nat) (t : TypeId) : ∀ (vs : List Value) (o : Nat) (w : World) (cs : Array Value), w.heap[b]? = some (.cells cs t (0, 0)) →
    ∃ cs', (w.setCells b o vs).heap[b]? = some (.cells cs' t (0, 0)) ∧ cs'.size = cs.size ∧ ∀ i, cs'[i]? = if o ≤ i ∧ i < o + vs.length ∧ i < cs.size then vs[i - o]? else cs[i]?
  | [], o, w, cs, h => ⟨cs, h, rfl, fun i => by rw [if_neg (by simp; omega)]⟩
  | v :: r, o, w, cs, h => by
    have h1 := heap_setCell_same w b o cs t v h
    obtain ⟨cs', h2, h3, h4⟩ := heap_setCells b t r (o + 1) (w.setCell ⟨b, o, none⟩ v) _ h1
    refine ⟨cs', h2, by rw [h3]; simp, fun i => ?_⟩
    rw [h4]
    simp only [Array.size_setIfInBounds, List.length_cons]
    by_cases hi : i = o
    · subst hi
      rw [if_neg (by omega)]
      by_cases hs : i < cs.size
      · rw [if_pos ⟨by omega, by omega, hs⟩]
        simp [hs]
      · rw [if_neg (by omega)]
        simp [hs]
    · by_cases hc : o + 1 ≤ i ∧ i < o + 1 + r.length ∧ i < cs.size
      · rw [if_pos hc, if_pos ⟨by omega, by omega, by omega⟩]
        rw [show i - o = (i - (o + 1)) + 1 by omega]
        rfl
      · rw [if_neg hc, if_neg (by omega)]
        rw [Array.getElem?_setIfInBounds]
        rw [if_neg (by omega)]
theorem heap_setCells_other (b k : Nat) (hk : k ≠ b) : ∀ (vs : List Value) (o : Nat) (w : World), (w.setCells b o vs).heap[k]? = w.heap[k]?
  | [], _, _ => rfl
  | v :: r, o, w => by
    have := heap_setCells_other b k hk r (o + 1) (w.setCell ⟨b, o, none⟩ v)
    exact this.trans (heap_setCell_other w ⟨b, o, none⟩ k v hk)
theorem URow.there {w : World} {e : TypeId} {B : Nat} {l : List Nat} (h : URow w e B l) : w.there B 0 l.length := fun j hj => by
  rw [Nat.zero_add, h.cell hj]
  exact ⟨rfl, h.frozen j⟩
/-- a whole row is stored -/
theorem URow.store {w : World} {e : TypeId} {B : Nat} {l : List Nat} (h : URow w e B l) (m : List Nat) (hm : m.length = l.length) : URow (w.setCells B 0 (uC m).toList) e B m := by
  obtain ⟨cs', h1, h2, h3⟩ := heap_setCells B e (uC m).toList 0 w (uC l) h
  unfold URow
  rw [h1]
  congr 2
  apply Array.ext
  · rw [h2, uC_size, uC_size, hm]
  · intro i hi1 hi2
    have := h3 i
    rw [uC_size] at hi2
    rw [if_pos ⟨by omega, by rw [Array.length_toList, uC_size]; omega, by rw [uC_size]; omega⟩, Array.getElem?_eq_getElem hi1] at this
    simp only [Nat.sub_zero, Array.getElem?_toList] at this
    rw [Array.getElem?_eq_getElem (by rw [uC_size]; exact hi2)] at this
    exact Option.some.inj this
theorem below_setCells {B b : Nat} (hb : B ≤ b) : ∀ (vs : List Value) (o : Nat) {w w1 : World}, Below B w w1 → Below B w (w1.setCells b o vs)
  | [], _, _, _, h => h
  | v :: r, o, _, _, h => below_setCells hb r (o + 1) (h.setCell (p := ⟨b, o, none⟩) hb v)
theorem uC_one (l : List Nat) : (uC l).all (·.oneCell') = true := by
  unfold uC
  apply all_oneCell_toArray
  intro v hv
  simp only [List.mem_map] at hv
  obtain ⟨n, _, rfl⟩ := hv
  rfl
end Go.Proofs.YtbfhhnpoogmlnaaDoor
namespace Go.Proofs.YtbfhhnpoogmlnaaDoor
open Go.RowKit
section
variable {P : Program} {ops : Array Oper} {Q : Exit → Act → World → Prop} {md : Region.Mode} {S : World → Prop}
/-- A load of a long array comes up first. -/
theorem take_row {fuel : Nat} {listed : Array Bool} {l : List Value} {df : List Deferred} {w : World} (i : Nat) {oi : Oper} {d : Nat} {ty : TypeId} {x : Operand} {b o : Nat} {cs : List Value} {ds : TypeDesc}
    (hi : ops[i]? = some oi) (hs : Region.noSelect ops = true) (hf : Region.free md ops listed i = true) (hr : (Region.ready md ops listed).contains i = true)
    (hQ : ∀ c a w v, Q (.panic c) (a.put oi.dst v) w → Q (.panic c) a w)
    (hw : Region.wanted oi (yielded ops l.toArray) = true) (hd : oi.dst = some d) (ho : oi.op = .load ty x) (hx : (Act.mk l.toArray df).eval x = .pointer (some ⟨b, o, none⟩))
    (hS' : ∀ w, S w → w.rangeAt b o cs) (hu : P.underlying ty = some ds) (hrow : ds.isRow = true) (hsz : (P.info? ty).map (·.size) = some cs.length) (hS : S w)
    (h : wpAnyH P md ops Q S fuel (listed.setIfInBounds i true) ⟨(l.set d (.agg cs.toArray)).toArray, df⟩ w) : wpAnyH P md ops Q S (fuel + 1) listed ⟨l.toArray, df⟩ w := by
  refine wpAnyH_take (i := i) (oi := oi) (v := .agg cs.toArray) hi hs hf hr (fun c a w => hQ c a w _) (yieldsIf_load_mid hw ty x ho b o hx cs ds hS' hu hrow hsz) hS ?_
  simpa only [hd, Act.put, List.setIfInBounds_toArray] using h
/-- An operation that is not wanted comes up first. -/
theorem take_not {fuel : Nat} {listed : Array Bool} {l : List Value} {df : List Deferred} {w : World} (i : Nat) {oi : Oper} {d : Nat}
    (hi : ops[i]? = some oi) (hs : Region.noSelect ops = true) (hf : Region.free md ops listed i = true) (hr : (Region.ready md ops listed).contains i = true)
    (hQ : ∀ c a w v, Q (.panic c) (a.put oi.dst v) w → Q (.panic c) a w)
    (hw : Region.wanted oi (yielded ops l.toArray) = false) (hd : oi.dst = some d) (hS : S w)
    (h : wpAnyH P md ops Q S fuel (listed.setIfInBounds i true) ⟨(l.set d undef).toArray, df⟩ w) : wpAnyH P md ops Q S (fuel + 1) listed ⟨l.toArray, df⟩ w := by
  refine wpAnyH_take (i := i) (oi := oi) (v := undef) hi hs hf hr (fun c a w => hQ c a w _) (Or.inr ⟨hw, rfl⟩) hS ?_
  simpa only [hd, Act.put, List.setIfInBounds_toArray] using h
/-- An operation whose value is the same in every world comes up first. -/
theorem take_val {fuel : Nat} {listed : Array Bool} {l : List Value} {df : List Deferred} {w : World} (i : Nat) {oi : Oper} {d : Nat} (v : Value)
    (hi : ops[i]? = some oi) (hs : Region.noSelect ops = true) (hf : Region.free md ops listed i = true) (hr : (Region.ready md ops listed).contains i = true)
    (hQ : ∀ c a w v, Q (.panic c) (a.put oi.dst v) w → Q (.panic c) a w)
    (hw : Region.wanted oi (yielded ops l.toArray) = true) (hd : oi.dst = some d) (hv : ∀ w, S w → (execOp (Act.mk l.toArray df).eval oi).run P w = .ok (.value v) w) (hS : S w)
    (h : wpAnyH P md ops Q S fuel (listed.setIfInBounds i true) ⟨(l.set d v).toArray, df⟩ w) : wpAnyH P md ops Q S (fuel + 1) listed ⟨l.toArray, df⟩ w := by
  refine wpAnyH_take (i := i) (oi := oi) (v := v) hi hs hf hr (fun c a w => hQ c a w _) (Or.inl ⟨hw, hv⟩) hS ?_
  simpa only [hd, Act.put, List.setIfInBounds_toArray] using h
/-- One operation alone is ready. -/
theorem one_ready {fuel : Nat} {listed : Array Bool} {a : Act} {w : World} (i : Nat) {o : Oper} (hr : Region.ready md ops listed = [i]) (ho : ops[i]? = some o)
    (hw : Region.wanted o (yielded ops a.tmps) = true)
    (h : ∀ K' : Act → World → Prop, Hid (∀ a w, S w → wpAnyH P md ops Q S fuel (listed.setIfInBounds i true) a w → K' a w) → Oper.wp P o a w K' Q) : wpAnyH P md ops Q S (fuel + 1) listed a w := by
  refine wpAnyH_ready hr (by simp) (AllReadyH.cons ho (fun K hK => ?_) AllReadyH.nil)
  rw [if_pos hw]
  exact h K (Lib.hid fun a w hS hx => hK.out a w hS fun _ => hx)
/-- Two operations are ready. -/
theorem two_ready {fuel : Nat} {listed : Array Bool} {a : Act} {w : World} (i j : Nat) {o p : Oper} (hr : Region.ready md ops listed = [i, j]) (ho : ops[i]? = some o) (hp : ops[j]? = some p)
    (hw : Region.wanted o (yielded ops a.tmps) = true) (hw2 : Region.wanted p (yielded ops a.tmps) = true)
    (h : ∀ K' : Act → World → Prop, Hid (∀ a w, S w → wpAnyH P md ops Q S fuel (listed.setIfInBounds i true) a w → K' a w) → Oper.wp P o a w K' Q)
    (h2 : ∀ K' : Act → World → Prop, Hid (∀ a w, S w → wpAnyH P md ops Q S fuel (listed.setIfInBounds j true) a w → K' a w) → Oper.wp P p a w K' Q) : wpAnyH P md ops Q S (fuel + 1) listed a w := by
  refine wpAnyH_ready hr (by simp) (AllReadyH.cons ho (fun K hK => ?_) (AllReadyH.cons hp (fun K hK => ?_) AllReadyH.nil))
  · rw [if_pos hw]
    exact h K (Lib.hid fun a w hS hx => hK.out a w hS fun _ => hx)
  · rw [if_pos hw2]
    exact h2 K (Lib.hid fun a w hS hx => hK.out a w hS fun _ => hx)
/-- What an operation that yields a value leaves to be shown. -/
theorem put_eq {l : List Value} {df : List Deferred} {o : Oper} {d : Nat} {v : Value} (hd : o.dst = some d) : (Act.mk l.toArray df).put o.dst v = ⟨(l.set d v).toArray, df⟩ := by
  simp only [hd, Act.put, List.setIfInBounds_toArray]
end
end Go.Proofs.YtbfhhnpoogmlnaaDoor
namespace Go.Proofs.YtbfhhnpoogmlnaaDoor
open Go.RowKit
theorem setCells_frame (b : Nat) : ∀ (vs : List Value) (o : Nat) (w : World), w.setCells b o vs = { w with heap := (w.setCells b o vs).heap } ∧ (w.setCells b o vs).heap.size = w.heap.size
  | [], _, _ => ⟨rfl, rfl⟩
  | v :: r, o, w => by
    obtain ⟨h, h2⟩ := setCells_frame b r (o + 1) (w.setCell ⟨b, o, none⟩ v)
    refine ⟨h, ?_⟩
    show ((w.setCell ⟨b, o, none⟩ v).setCells b (o + 1) r).heap.size = _
    rw [h2]
    simp [World.setCell]
theorem setCells_full {w : World} {b : Nat} {t : TypeId} {Z : Array Value} (hz : w.heap[b]? = some (.cells Z t (0, 0))) (cs : Array Value) (h : cs.size = Z.size) :
    (w.setCells b 0 cs.toList).heap[b]? = some (.cells cs t (0, 0)) := by
  obtain ⟨cs', h2, h3, h4⟩ := heap_setCells b t cs.toList 0 w Z hz
  rw [h2]
  congr 2
  apply Array.ext_getElem?
  intro i
  rw [h4]
  by_cases hi : i < Z.size
  · rw [if_pos ⟨Nat.zero_le _, by rw [Array.length_toList]; omega, hi⟩]
    simp
  · rw [if_neg (fun hc => hi hc.2.2)]
    rw [Array.getElem?_eq_none (by omega), Array.getElem?_eq_none (by omega)]
theorem alloc_setCells (w : World) (ty : TypeId) (Z cs : Array Value) (h : cs.size = Z.size) : (w.alloc (.cells Z ty)).setCells w.heap.size 0 cs.toList = w.alloc (.cells cs ty) := by
  obtain ⟨e, es⟩ := setCells_frame w.heap.size cs.toList 0 (w.alloc (.cells Z ty))
  have hf := setCells_full (heap_alloc_new w (.cells Z ty)) cs h
  have ho := fun k hk => heap_setCells_other w.heap.size k hk cs.toList 0 (w.alloc (.cells Z ty))
  generalize ((w.alloc (.cells Z ty)).setCells w.heap.size 0 cs.toList) = w2 at *
  have hh : w2.heap = (w.alloc (.cells cs ty)).heap := by
    apply Array.ext_getElem?
    intro k
    by_cases hk : k = w.heap.size
    · subst hk
      rw [hf]
      exact (heap_alloc_new w (.cells cs ty)).symm
    · rw [ho k hk]
      show (w.heap.push _)[k]? = (w.heap.push _)[k]?
      rw [Array.getElem?_push, Array.getElem?_push, if_neg (by omega), if_neg (by omega)]
  rw [e, hh]
  rfl
/-- The arm for the store: the block was the last one made. -/
theorem wpList_store_new {P : Program} {ops : Array Oper} {rest : List Oper} {op : Oper} {a : Act} {w : World} {Q : Exit → Act → World → Prop} {Z : Array Value} {bt : TypeId} (hgd : op.guard = none) (ty : TypeId) (x y : Operand) (ho : op.op = .store ty x y)
    (n : Nat) (cells : Array Value) (hx : a.eval x = .pointer (some ⟨n, 0, none⟩)) (hy : a.eval y = .agg cells)
    (hz : cells.size = Z.size) (hi : (P.info? ty).map (·.size) = some cells.size) (h1 : cells.all (·.oneCell') = true) (hn : n = w.heap.size)
    (h : wpList P ops Q rest (a.put op.dst undef) (w.alloc (.cells cells bt))) : wpList P ops Q (op :: rest) a (w.alloc (.cells Z bt)) := by
  subst hn
  refine wpList_store_mid hgd ty x y ho w.heap.size 0 cells hx hy ?_ hi h1 ?_
  · intro j hj
    rw [Nat.zero_add]
    have hb := heap_alloc_new w (.cells Z bt)
    refine ⟨?_, frozen_of_row _ _ _ _ _ hb⟩
    rw [cell_of_row _ _ _ _ _ _ hb, Array.getElem?_eq_getElem (by omega)]
    rfl
  · rw [alloc_setCells w bt Z cells hz]
    exact h
theorem bC_one (l : List Nat) : ((l.map bV).toArray).all (·.oneCell') = true := by
  apply Array.all_eq_true_iff_forall_mem.2
  intro v hv
  simp only [List.mem_toArray, List.mem_map] at hv
  obtain ⟨n, _, rfl⟩ := hv
  rfl
end Go.Proofs.YtbfhhnpoogmlnaaDoor
namespace Go.Proofs.YtbfhhnpoogmlnaaDoor
open Go.RowKit Plain
namespace Plain
/-- the first eight bytes, with zeros behind -/
def pad8 (l : List Nat) : List Nat := l.take 8 ++ List.replicate (8 - l.length) 0
theorem pad8_length (l : List Nat) : (pad8 l).length = 8 := by
  simp only [pad8, List.length_append, List.length_take, List.length_replicate]; omega
theorem pad8_lt (l : List Nat) (h : ∀ c ∈ l, c < 256) : ∀ c ∈ pad8 l, c < 256 := by
  intro c hc
  rcases List.mem_append.1 hc with h1 | h1
  · exact h c (List.mem_of_mem_take h1)
  · rw [(List.mem_replicate.1 h1).2]; decide
def le64 (a0 a1 a2 a3 a4 a5 a6 a7 : Nat) : Nat := a0 + a1 * 256 + a2 * 65536 + a3 * 16777216 + a4 * 4294967296 + a5 * 1099511627776 + a6 * 281474976710656 + a7 * 72057594037927936
def leL (l : List Nat) : Nat := le64 (l.getD 0 0) (l.getD 1 0) (l.getD 2 0) (l.getD 3 0) (l.getD 4 0) (l.getD 5 0) (l.getD 6 0) (l.getD 7 0)
end Plain
theorem or_add' (x y i : Nat) (hx : x < 2 ^ i) : x ||| (y * 2 ^ i) = x + y * 2 ^ i := by
  have h := Nat.two_pow_add_eq_or_of_lt hx y
  rw [Nat.or_comm, Nat.mul_comm y, ← h, Nat.add_comm]
theorem le64_lt (a0 a1 a2 a3 a4 a5 a6 a7 : Nat) (l0 : a0 < 256) (l1 : a1 < 256) (l2 : a2 < 256) (l3 : a3 < 256) (l4 : a4 < 256) (l5 : a5 < 256) (l6 : a6 < 256) (l7 : a7 < 256) : le64 a0 a1 a2 a3 a4 a5 a6 a7 < 18446744073709551616 := by
  unfold le64; omega
theorem take8_cells (s : ByteArray) : List.take (min s.size 8) (List.map (fun b : UInt8 => Value.int IntKind.u8 (b.toNat : Int)) s.data.toList) = ((strN s).take 8).map bV := by
  have hl : s.data.toList.length = s.size := by rw [Array.length_toList]; rfl
  rw [← List.take_take, List.take_of_length_le (by rw [List.length_take, List.length_map, hl]; omega)]
  simp only [strN, List.map_take, List.map_map]
  rfl
theorem pad8_cells (s : ByteArray) : (((List.replicate 8 0).map bV).toArray.toList.take (0 + 0) ++ ((strN s).take 8).map bV ++ ((List.replicate 8 0).map bV).toArray.toList.drop (0 + 0 + min s.size 8)).toArray = ((pad8 (strN s)).map bV).toArray := by
  congr 1
  simp only [pad8, Nat.add_zero, List.take_zero, List.nil_append, List.map_append, Nat.zero_add, List.map_replicate, List.drop_replicate, strN_length]
  congr 2
  omega
theorem run_copy8 {P : Program} (w : World) (dT sT ty elem : TypeId) (g : Nat) (s : ByteArray) (t : TypeId)
    (hu : P.underlying dT = some (.slice elem)) (hs : (P.info? elem).map (·.size) = some 1) (hg : w.heap[g]? = some (.cells ((List.replicate 8 0).map bV).toArray t (0, 0))) :
    (Builtin.copy_ #[dT, sT] ty #[.slice (some ⟨g, 0, none⟩) 8 8, .string s]).run P w = .ok (goInt ((min s.size 8 : Nat) : Int)) (w.setRow g ((pad8 (strN s)).map bV).toArray) := by
  have hlen : (((strN s).take 8).map bV).length = min s.size 8 := by rw [List.length_map, List.length_take, strN_length]; omega
  have hst := run_storeCells_at P g 0 t (((strN s).take 8).map bV) 0 _ w hg (by rw [hlen]; simp; omega) (by
    intro v hv
    simp only [List.mem_map] at hv
    obtain ⟨b, _, rfl⟩ := hv
    rfl)
  rw [hlen, pad8_cells, ← take8_cells] at hst
  generalize hm : ((min s.size 8 : Nat) : Int) = m
  have hm2 : ((s.size.min 8 : Nat) : Int) = m := hm
  cases hq : P.info? elem with
  | none => simp [hq] at hs
  | some i =>
    simp [Builtin.copy_, run_underlying hu, Builtin.lenOf, Builtin.firstCells, sizeOf, typeInfo, hq]
    rw [hm2, show s.size.min 8 = min s.size 8 from rfl, hst]
    rfl
theorem le64_val (a0 a1 a2 a3 a4 a5 a6 a7 : Nat) (l0 : a0 < 256) (l1 : a1 < 256) (l2 : a2 < 256) (l3 : a3 < 256) (l4 : a4 < 256) (l5 : a5 < 256) (l6 : a6 < 256) (l7 : a7 < 256) :
    bits .or .u64 (bits .or .u64 (bits .or .u64 (bits .or .u64 (bits .or .u64 (bits .or .u64 (bits .or .u64 (a0 : Int) ((a1 : Int) * 256)) ((a2 : Int) * 65536)) ((a3 : Int) * 16777216)) ((a4 : Int) * 4294967296)) ((a5 : Int) * 1099511627776)) ((a6 : Int) * 281474976710656)) ((a7 : Int) * 72057594037927936) = ((le64 a0 a1 a2 a3 a4 a5 a6 a7 : Nat) : Int) := by
  have e1 : ((a1 : Int) * 256) = ((a1 * 2 ^ 8 : Nat) : Int) := by simp
  have e2 : ((a2 : Int) * 65536) = ((a2 * 2 ^ 16 : Nat) : Int) := by simp
  have e3 : ((a3 : Int) * 16777216) = ((a3 * 2 ^ 24 : Nat) : Int) := by simp
  have e4 : ((a4 : Int) * 4294967296) = ((a4 * 2 ^ 32 : Nat) : Int) := by simp
  have e5 : ((a5 : Int) * 1099511627776) = ((a5 * 2 ^ 40 : Nat) : Int) := by simp
  have e6 : ((a6 : Int) * 281474976710656) = ((a6 * 2 ^ 48 : Nat) : Int) := by simp
  have e7 : ((a7 : Int) * 72057594037927936) = ((a7 * 2 ^ 56 : Nat) : Int) := by simp
  rw [e1, e2, e3, e4, e5, e6, e7]
  rw [bits_or_u64_nat _ _ (by omega) (by omega), or_add' _ _ 8 (by omega), bits_or_u64_nat _ _ (by omega) (by omega), or_add' _ _ 16 (by omega), bits_or_u64_nat _ _ (by omega) (by omega), or_add' _ _ 24 (by omega), bits_or_u64_nat _ _ (by omega) (by omega), or_add' _ _ 32 (by omega),
    bits_or_u64_nat _ _ (by omega) (by omega), or_add' _ _ 40 (by omega), bits_or_u64_nat _ _ (by omega) (by omega), or_add' _ _ 48 (by omega), bits_or_u64_nat _ _ (by omega) (by omega), or_add' _ _ 56 (by omega)]
  rfl
set_option maxRecDepth 100000 in
theorem le64_any (b off cap a0 a1 a2 a3 a4 a5 a6 a7 : Nat) (w : World) (h0 : w.cell? ⟨b, off, none⟩ = some (.int .u8 a0)) (h1 : w.cell? ⟨b, off + 1, none⟩ = some (.int .u8 a1)) (h2 : w.cell? ⟨b, off + 2, none⟩ = some (.int .u8 a2)) (h3 : w.cell? ⟨b, off + 3, none⟩ = some (.int .u8 a3))
    (h4 : w.cell? ⟨b, off + 4, none⟩ = some (.int .u8 a4)) (h5 : w.cell? ⟨b, off + 5, none⟩ = some (.int .u8 a5)) (h6 : w.cell? ⟨b, off + 6, none⟩ = some (.int .u8 a6)) (h7 : w.cell? ⟨b, off + 7, none⟩ = some (.int .u8 a7))
    (l0 : a0 < 256) (l1 : a1 < 256) (l2 : a2 < 256) (l3 : a3 < 256) (l4 : a4 < 256) (l5 : a5 < 256) (l6 : a6 < 256) (l7 : a7 < 256) :
    Calls Tryd.prog 178 #[.agg #[], .slice (some ⟨b, off, none⟩) 8 cap] w fun e w' => e = .returned (.int .u64 (le64 a0 a1 a2 a3 a4 a5 a6 a7)) ∧ Below w.heap.size w w' := by
  have hb := World.block_lt_of_cell? w _ h0
  go_enter Tryd.func178, Tryd.ntmps178
  go_wp2
  go_quiet (fail)
  go_wp2
  go_ret
  exact ⟨ret_int (le64_val a0 a1 a2 a3 a4 a5 a6 a7 l0 l1 l2 l3 l4 l5 l6 l7), below_drewN ((Below.refl _ _).alloc (Nat.le_refl _) _) _⟩
end Go.Proofs.YtbfhhnpoogmlnaaDoor
namespace Go.Proofs.YtbfhhnpoogmlnaaDoor
open Go.RowKit Plain
namespace Plain
def mfold (mask x : Nat) (l : List Nat) : Nat :=
  if _h : l.length = 0 then x else mfold mask (mstep x (leL (pad8 l)) &&& mask) (l.drop 8)
termination_by l.length
decreasing_by simp only [List.length_drop]; omega
theorem mfold_nil (mask x : Nat) (l : List Nat) (h : l.length = 0) : mfold mask x l = x := by rw [mfold, dif_pos h]
theorem mfold_step (mask x : Nat) (l : List Nat) (h : l.length ≠ 0) : mfold mask x l = mfold mask (mstep x (leL (pad8 l)) &&& mask) (l.drop 8) := by rw [mfold, dif_neg h]
def msum (mask : Nat) (l : List Nat) : Nat := mstep (mfold mask 0 l) l.length &&& mask
theorem leL_lt (l : List Nat) (h : ∀ c ∈ l, c < 256) : leL l < 18446744073709551616 := by
  have hg : ∀ i, l.getD i 0 < 256 := fun i => by
    rw [List.getD_eq_getElem?_getD]
    cases hg : l[i]? with
    | none => decide
    | some v => exact h v (List.mem_of_getElem? hg)
  exact le64_lt _ _ _ _ _ _ _ _ (hg 0) (hg 1) (hg 2) (hg 3) (hg 4) (hg 5) (hg 6) (hg 7)
end Plain
theorem row_byte {w : World} {B : Nat} {t : TypeId} {l : List Nat} (h : w.heap[B]? = some (.cells (l.map bV).toArray t (0, 0))) (i : Nat) (hi : i < l.length) : w.cell? ⟨B, i, none⟩ = some (.int .u8 ((l.getD i 0 : Nat) : Int)) := by
  rw [cell_of_row _ _ _ _ _ _ h]
  simp [List.getElem?_map, List.getD_eq_getElem?_getD, List.getElem?_eq_getElem hi, bV]
theorem le64_row (B : Nat) (t : TypeId) (l : List Nat) (w : World) (h : w.heap[B]? = some (.cells (l.map bV).toArray t (0, 0))) (hl : l.length = 8) (hb : ∀ c ∈ l, c < 256) :
    Calls Tryd.prog 178 #[.agg #[], .slice (some ⟨B, 0, none⟩) 8 8] w fun e w' => e = .returned (.int .u64 (leL l : Nat)) ∧ Below w.heap.size w w' := by
  have hg : ∀ i, l.getD i 0 < 256 := fun i => by
    rw [List.getD_eq_getElem?_getD]
    cases hg : l[i]? with
    | none => decide
    | some v => exact hb v (List.mem_of_getElem? hg)
  have hc := fun i hi => row_byte h i hi
  have h0 := hc 0 (by omega)
  have h1 := hc 1 (by omega)
  have h2 := hc 2 (by omega)
  have h3 := hc 3 (by omega)
  have h4 := hc 4 (by omega)
  have h5 := hc 5 (by omega)
  have h6 := hc 6 (by omega)
  have h7 := hc 7 (by omega)
  exact le64_any B 0 8 _ _ _ _ _ _ _ _ w h0 h1 h2 h3 h4 h5 h6 h7 (hg 0) (hg 1) (hg 2) (hg 3) (hg 4) (hg 5) (hg 6) (hg 7)
def szOf : Value → Nat
  | .string b => b.size
  | _ => 0
set_option maxRecDepth 100000 in
set_option maxHeartbeats 1000000 in
theorem sum_any (s : ByteArray) (mask : Nat) (w : World) (hs : s.size ≤ 9223372036854775807) (hm : mask < M64) :
    Calls Tryd.prog 157 #[.string s, .int .u64 (mask : Int)] w fun e w' => e = .returned (.int .u64 (msum mask (strN s) : Nat)) ∧ Below w.heap.size w w' := by
  have HM := Lib.hid hm
  have HS0 := Lib.hid hs
  clear hm
  have hwr : IntKind.u64.wrap (s.size : Int) = (s.size : Int) := by rw [IntKind.wrap_u64]; omega
  clear hs
  go_enter Tryd.func157, Tryd.ntmps157
  go_wp2_with fail
  go_loopw [0, 5] (fun sv xv wr => ∃ (s' : ByteArray) (x : Nat), sv = .string s' ∧ xv = .int .u64 (x : Int) ∧ x < M64 ∧ mfold mask x (strN s') = mfold mask 0 (strN s) ∧ s'.size ≤ 9223372036854775807 ∧ Below w.heap.size w wr) (fun sv _ _ => szOf sv)
  case atStart => exact ⟨s, 0, rfl, rfl, by decide, rfl, HS0.out, Below.refl _ _⟩
  case round =>
    obtain ⟨s', x, rfl, rfl, hx, hf, hsz, hbl⟩ := hrel
    have HX := Lib.hid hx
    have HF := Lib.hid hf
    have HZ := Lib.hid hsz
    have BL := Lib.hid hbl
    clear hx hf hsz hbl
    have hemp : s'.toList.isEmpty = decide (s'.size = 0) := by
      have hl : s'.data.toList.length = s'.size := by rw [Array.length_toList]; rfl
      rw [Lib.toList_data]
      cases hd : s'.data.toList with
      | nil => rw [hd] at hl; simp at hl; simp [← hl]
      | cons a l => rw [hd] at hl; simp at hl; simp [← hl]
    by_cases he : s'.size = 0
    · have he2 : s'.toList.isEmpty = true := by rw [hemp]; exact decide_eq_true he
      clear hemp
      have hx := HF.out
      rw [mfold_nil _ _ _ (by rw [strN_length]; exact he)] at hx
      have HX2 := Lib.hid hx
      clear hx he
      have HC := Lib.hid fun wx => step_any x s.size wx HX.out (by have := HS0.out; show _ < M64; rw [m64]; omega)
      have hlt := mstep_lt x s.size
      have ha := bits_and_u64_nat (mstep x s.size) mask (lt64 hlt) (lt64 HM.out)
      have hr : Hid (mstep x s.size &&& mask = msum mask (strN s)) := by unfold msum; rw [← HX2.out, strN_length]; rfl
      generalize mstep x s.size = y at *
      generalize y &&& mask = z at *
      clear hlt
      go_wp2_with (go_at_call 177; refine (HC.out _).mono ?_; rintro e w' ⟨rfl, rfl⟩)
      go_ret
      exact ⟨ret_int (by rw [hr.out]), BL.out⟩
    · have he2 : s'.toList.isEmpty = false := by rw [hemp]; exact decide_eq_false he
      clear hemp
      have hne : (strN s').length ≠ 0 := by rw [strN_length]; exact he
      have hf := HF.out
      rw [mfold_step _ _ _ hne] at hf
      have hext : strN (s'.extract (min s'.size 8) s'.size) = (strN s').drop 8 := by
        rw [extract_strN]
        rcases Nat.lt_or_ge s'.size 8 with h | h
        · rw [Nat.min_eq_left (Nat.le_of_lt h), List.drop_eq_nil_of_le (by rw [strN_length]; omega), List.drop_eq_nil_of_le (by rw [strN_length]; omega)]
        · rw [Nat.min_eq_right h]
      have hes : (s'.extract (min s'.size 8) s'.size).size = s'.size - 8 := by rw [← strN_length, hext, List.length_drop, strN_length]
      have HES := Lib.hid hes
      have HEX := Lib.hid hext
      have hb := leL_lt _ (pad8_lt _ (strN_lt s'))
      have HC := Lib.hid fun wx => step_any x (leL (pad8 (strN s'))) wx HX.out (by show _ < M64; rw [m64]; exact hb)
      have hlt := mstep_lt x (leL (pad8 (strN s')))
      have ha := bits_and_u64_nat (mstep x (leL (pad8 (strN s')))) mask (lt64 hlt) (lt64 HM.out)
      have hz : mstep x (leL (pad8 (strN s'))) &&& mask < 18446744073709551616 := Nat.lt_of_le_of_lt Nat.and_le_left (lt64 hlt)
      have RZ := Lib.hid (heap_alloc_new wr (.cells ((List.replicate 8 0).map bV).toArray 48))
      have hcp := run_copy8 (P := Tryd.prog) (wr.alloc (.cells ((List.replicate 8 0).map bV).toArray 48)) 92 9 3 5 wr.heap.size s' 48 Tryd.underlying92 (by kernel_rfl) RZ.out
      have HCP := Lib.hid hcp
      have RP := Lib.hid (setRow_heap (wr.alloc (.cells ((List.replicate 8 0).map bV).toArray 48)) wr.heap.size _ ((pad8 (strN s')).map bV).toArray _ _ RZ.out)
      have BP := Lib.hid (below_setRow (BL.out.alloc BL.out.size (.cells ((List.replicate 8 0).map bV).toArray 48)) BL.out.size ((pad8 (strN s')).map bV).toArray)
      have HU : Hid (∀ (wx : World), wx.heap[wr.heap.size]? = some (.cells ((pad8 (strN s')).map bV).toArray 48 (0, 0)) → Calls Tryd.prog 178 #[.agg #[], .slice (some ⟨wr.heap.size, 0, none⟩) 8 8] wx fun e w' => e = .returned (.int .u64 (leL (pad8 (strN s')) : Nat)) ∧ Below wx.heap.size wx w') :=
        fun wx h => le64_row _ _ _ wx h (pad8_length _) (pad8_lt _ (strN_lt s'))
      have mn : ((min s'.size 8 : Nat) : Int) ≤ (s'.size : Int) := by omega
      have mn0 : (0 : Int) ≤ ((min s'.size 8 : Nat) : Int) := Int.natCast_nonneg _
      have HF2 := Lib.hid hf
      clear hf hext hes hcp hne hb hlt
      generalize leL (pad8 (strN s')) = bl at *
      generalize mstep x bl = y at *
      generalize y &&& mask = z at *
      generalize (wr.alloc (.cells ((List.replicate 8 0).map bV).toArray 48)).setRow wr.heap.size ((pad8 (strN s')).map bV).toArray = w2 at *
      generalize min s'.size 8 = m8 at *
      go_wp2_with (first | (refine Lib.wpList_copy_run _ rfl _ _ 92 9 rfl _ _ rfl rfl HCP.out ?_))
      refine wp_region_noPanic ?_
      refine wp_region_held_drew (S := fun _ => True) (by kernel_rfl) trivial (fun _ => ?_)
      have RV : Hid (w2.drew.heap[wr.heap.size]? = some (.cells ((pad8 (strN s')).map bV).toArray 48 (0, 0))) := RP.out
      have BV : Hid (Below w.heap.size w w2.drew) := BP.out.drew
      clear RP BP RZ HCP
      generalize w2.drew = v0 at *
      refine take_val 0 (.int .u64 (x : Int)) rfl (by kernel_rfl) (by kernel_rfl) (by kernel_rfl) (fun _ _ _ _ h => h) (by rfl) rfl (fun w _ => by go_simp) trivial ?_
      try simp only [List.set_cons_zero, List.set_cons_succ]
      refine take_val 1 (.agg #[]) rfl (by kernel_rfl) (by kernel_rfl) (by kernel_rfl) (fun _ _ _ _ h => h) (by rfl) rfl (fun w _ => by go_simp) trivial ?_
      try simp only [List.set_cons_zero, List.set_cons_succ]
      refine take_val 2 (.slice (some ⟨wr.heap.size, 0, none⟩) 8 8) rfl (by kernel_rfl) (by kernel_rfl) (by kernel_rfl) (fun _ _ _ _ h => h) (by rfl) rfl (fun w _ => by go_simp) trivial ?_
      try simp only [List.set_cons_zero, List.set_cons_succ]
      refine take_val 5 (.int .u64 (mask : Int)) rfl (by kernel_rfl) (by kernel_rfl) (by kernel_rfl) (fun _ _ _ _ h => h) (by rfl) rfl (fun w _ => by go_simp) trivial ?_
      try simp only [List.set_cons_zero, List.set_cons_succ]
      refine one_ready 3 (by kernel_rfl) rfl (by rfl) (fun K hK => ?_)
      go_simp
      refine (HU.out _ RV.out).mono ?_
      rintro e v1 ⟨rfl, hb1⟩
      go_wp2_with fail
      refine hK.out _ _ trivial ?_
      clear hK K
      try simp only [Act.put, List.setIfInBounds_toArray, List.set_cons_zero, List.set_cons_succ]
      have BV1 := Lib.hid (Below.step BV.out hb1)
      clear BV RV HU hb1
      refine one_ready 4 (by kernel_rfl) rfl (by rfl) (fun K hK => ?_)
      go_simp
      refine (HC.out _).mono ?_
      rintro e v2 ⟨rfl, rfl⟩
      go_wp2_with fail
      refine hK.out _ _ trivial ?_
      clear hK K
      try simp only [Act.put, List.setIfInBounds_toArray, List.set_cons_zero, List.set_cons_succ]
      refine take_val 6 (.int .u64 (z : Int)) rfl (by kernel_rfl) (by kernel_rfl) (by kernel_rfl) (fun _ _ _ _ h => h) (by rfl) rfl (fun w _ => by go_simp) trivial ?_
      try simp only [List.set_cons_zero, List.set_cons_succ]
      refine take_val 7 (.int .u64 (z : Int)) rfl (by kernel_rfl) (by kernel_rfl) (by kernel_rfl) (fun _ _ _ _ h => h) (by rfl) rfl (fun w _ => by go_simp) trivial ?_
      try simp only [List.set_cons_zero, List.set_cons_succ]
      refine wpAnyH_done (by kernel_rfl) ?_ _
      refine NoPanic.normal ?_
      go_wp2_with fail
      go_roundw
      case rel => exact ⟨_, z, rfl, rfl, by rw [m64]; exact hz, by rw [HEX.out]; exact HF2.out, by rw [HES.out]; have := HZ.out; omega, BV1.out⟩
      case measure => simp only [szOf]; rw [HES.out]; omega
end Go.Proofs.YtbfhhnpoogmlnaaDoor
namespace Go.Proofs.YtbfhhnpoogmlnaaDoor
open Go.RowKit Plain
namespace Plain
def be8 (h : Nat) : List Nat := [h / 72057594037927936 % 256, h / 281474976710656 % 256, h / 1099511627776 % 256, h / 4294967296 % 256, h / 16777216 % 256, h / 65536 % 256, h / 256 % 256, h % 256]
theorem be8_inj {g h : Nat} (hg : g < 18446744073709551616) (hh : h < 18446744073709551616) (e : be8 g = be8 h) : g = h := by
  simp only [be8, List.cons.injEq, and_true] at e
  obtain ⟨e7, e6, e5, e4, e3, e2, e1, e0⟩ := e
  have a1 : g / 256 / 256 = g / 65536 := by rw [Nat.div_div_eq_div_mul]
  have b1 : h / 256 / 256 = h / 65536 := by rw [Nat.div_div_eq_div_mul]
  have a2 : g / 65536 / 256 = g / 16777216 := by rw [Nat.div_div_eq_div_mul]
  have b2 : h / 65536 / 256 = h / 16777216 := by rw [Nat.div_div_eq_div_mul]
  have a3 : g / 16777216 / 256 = g / 4294967296 := by rw [Nat.div_div_eq_div_mul]
  have b3 : h / 16777216 / 256 = h / 4294967296 := by rw [Nat.div_div_eq_div_mul]
  have a4 : g / 4294967296 / 256 = g / 1099511627776 := by rw [Nat.div_div_eq_div_mul]
  have b4 : h / 4294967296 / 256 = h / 1099511627776 := by rw [Nat.div_div_eq_div_mul]
  have a5 : g / 1099511627776 / 256 = g / 281474976710656 := by rw [Nat.div_div_eq_div_mul]
  have b5 : h / 1099511627776 / 256 = h / 281474976710656 := by rw [Nat.div_div_eq_div_mul]
  have a6 : g / 281474976710656 / 256 = g / 72057594037927936 := by rw [Nat.div_div_eq_div_mul]
  have b6 : h / 281474976710656 / 256 = h / 72057594037927936 := by rw [Nat.div_div_eq_div_mul]
  have t7 : g / 72057594037927936 = h / 72057594037927936 := by
    have x : g / 72057594037927936 < 256 := by omega
    have y : h / 72057594037927936 < 256 := by omega
    rwa [Nat.mod_eq_of_lt x, Nat.mod_eq_of_lt y] at e7
  have st : ∀ p q : Nat, p / 256 = q / 256 → p % 256 = q % 256 → p = q := fun p q h1 h2 => by omega
  have t6 := st _ _ (by rw [a6, b6]; exact t7) e6
  have t5 := st _ _ (by rw [a5, b5]; exact t6) e5
  have t4 := st _ _ (by rw [a4, b4]; exact t5) e4
  have t3 := st _ _ (by rw [a3, b3]; exact t4) e3
  have t2 := st _ _ (by rw [a2, b2]; exact t3) e2
  have t1 := st _ _ (by rw [a1, b1]; exact t2) e1
  exact st _ _ t1 e0
theorem be8_lt (h : Nat) : ∀ c ∈ be8 h, c < 256 := by
  intro c hc
  simp only [be8, List.mem_cons, List.not_mem_nil, or_false] at hc
  rcases hc with rfl | rfl | rfl | rfl | rfl | rfl | rfl | rfl <;> exact Nat.mod_lt _ (by decide)
end Plain
theorem be8_cells (h : Nat) : (#[Value.int .u8 ((h : Int) / 72057594037927936 % 256), .int .u8 ((h : Int) / 281474976710656 % 256), .int .u8 ((h : Int) / 1099511627776 % 256), .int .u8 ((h : Int) / 4294967296 % 256), .int .u8 ((h : Int) / 16777216 % 256), .int .u8 ((h : Int) / 65536 % 256), .int .u8 ((h : Int) / 256 % 256), .int .u8 ((h : Int) % 256)] : Array Value) = ((be8 h).map bV).toArray := by
  simp only [be8, List.map_cons, List.map_nil, bV]
  simp
theorem row8 {w : World} {B : Nat} {t : TypeId} {z0 z1 z2 z3 z4 z5 z6 z7 : Value} (hb : w.heap[B]? = some (.cells #[z0, z1, z2, z3, z4, z5, z6, z7] t (0, 0))) (v0 v1 v2 v3 v4 v5 v6 v7 : Value) (o : Obj) :
    (((((((((w.setCell ⟨B, 0, none⟩ v0).setCell ⟨B, 1, none⟩ v1).setCell ⟨B, 2, none⟩ v2).setCell ⟨B, 3, none⟩ v3).setCell ⟨B, 4, none⟩ v4).setCell ⟨B, 5, none⟩ v5).setCell ⟨B, 6, none⟩ v6).setCell ⟨B, 7, none⟩ v7).alloc o).heap[B]? = some (.cells #[v0, v1, v2, v3, v4, v5, v6, v7] t (0, 0)) := by
  have r0 := heap_setCell_same w B 0 _ t v0 hb
  simp only [List.setIfInBounds_toArray, List.set_cons_zero] at r0
  have r1 := heap_setCell_same _ B 1 _ t v1 r0
  simp only [List.setIfInBounds_toArray, List.set_cons_zero, List.set_cons_succ] at r1
  have r2 := heap_setCell_same _ B 2 _ t v2 r1
  simp only [List.setIfInBounds_toArray, List.set_cons_zero, List.set_cons_succ] at r2
  have r3 := heap_setCell_same _ B 3 _ t v3 r2
  simp only [List.setIfInBounds_toArray, List.set_cons_zero, List.set_cons_succ] at r3
  have r4 := heap_setCell_same _ B 4 _ t v4 r3
  simp only [List.setIfInBounds_toArray, List.set_cons_zero, List.set_cons_succ] at r4
  have r5 := heap_setCell_same _ B 5 _ t v5 r4
  simp only [List.setIfInBounds_toArray, List.set_cons_zero, List.set_cons_succ] at r5
  have r6 := heap_setCell_same _ B 6 _ t v6 r5
  simp only [List.setIfInBounds_toArray, List.set_cons_zero, List.set_cons_succ] at r6
  have r7 := heap_setCell_same _ B 7 _ t v7 r6
  simp only [List.setIfInBounds_toArray, List.set_cons_zero, List.set_cons_succ] at r7
  exact ((Below.heap_alloc _ _ _ (lt_of_block r7)).trans r7)
theorem below8 {w : World} {B : Nat} (v0 v1 v2 v3 v4 v5 v6 v7 : Value) (o : Obj) (lt : B < w.heap.size) :
    Below B w (((((((((w.setCell ⟨B, 0, none⟩ v0).setCell ⟨B, 1, none⟩ v1).setCell ⟨B, 2, none⟩ v2).setCell ⟨B, 3, none⟩ v3).setCell ⟨B, 4, none⟩ v4).setCell ⟨B, 5, none⟩ v5).setCell ⟨B, 6, none⟩ v6).setCell ⟨B, 7, none⟩ v7).alloc o) := by
  refine Below.alloc (Below.setCell (Below.setCell (Below.setCell (Below.setCell (Below.setCell (Below.setCell (Below.setCell (Below.setCell (Below.refl _ _) ?_ _) ?_ _) ?_ _) ?_ _) ?_ _) ?_ _) ?_ _) ?_ _) ?_ _
  all_goals simp [World.setCell]
  omega
set_option maxRecDepth 100000 in
theorem put64 (B t h : Nat) (w : World) (hb : w.heap[B]? = some (.cells #[.int .u8 0, .int .u8 0, .int .u8 0, .int .u8 0, .int .u8 0, .int .u8 0, .int .u8 0, .int .u8 0] t (0, 0))) : Calls Tryd.prog 119 #[.agg #[], .slice (some ⟨B, 0, none⟩) 8 8, .int .u64 (h : Int)] w fun e w' => (∃ v, e = .returned v) ∧ w'.heap[B]? = some (.cells ((be8 h).map bV).toArray t (0, 0)) ∧ Below B w w' := by
  have lt := lt_of_block hb
  have c0 : w.cell? ⟨B, 0, none⟩ = some (.int .u8 0) := (cell_of_row _ _ _ _ _ _ hb).trans rfl
  have c1 : w.cell? ⟨B, 1, none⟩ = some (.int .u8 0) := (cell_of_row _ _ _ _ _ _ hb).trans rfl
  have c2 : w.cell? ⟨B, 2, none⟩ = some (.int .u8 0) := (cell_of_row _ _ _ _ _ _ hb).trans rfl
  have c3 : w.cell? ⟨B, 3, none⟩ = some (.int .u8 0) := (cell_of_row _ _ _ _ _ _ hb).trans rfl
  have c4 : w.cell? ⟨B, 4, none⟩ = some (.int .u8 0) := (cell_of_row _ _ _ _ _ _ hb).trans rfl
  have c5 : w.cell? ⟨B, 5, none⟩ = some (.int .u8 0) := (cell_of_row _ _ _ _ _ _ hb).trans rfl
  have c6 : w.cell? ⟨B, 6, none⟩ = some (.int .u8 0) := (cell_of_row _ _ _ _ _ _ hb).trans rfl
  have c7 : w.cell? ⟨B, 7, none⟩ = some (.int .u8 0) := (cell_of_row _ _ _ _ _ _ hb).trans rfl
  have fr := fun k => frozen_of_row _ B k _ _ hb
  have HB := Lib.hid hb
  clear hb
  go_enter Tryd.func119, Tryd.ntmps119
  go_wp2
  refine ⟨rfl, ?_⟩
  refine ⟨_, by simp [results, Tryd.results119]; rfl, ⟨_, rfl⟩, ?_, ?_⟩
  · rw [← be8_cells]
    exact row8 HB.out _ _ _ _ _ _ _ _ _
  · exact below8 _ _ _ _ _ _ _ _ _ lt
theorem and_full (x : Nat) (hx : x < 18446744073709551616) : x &&& 18446744073709551615 = x := by
  have := Nat.and_two_pow_sub_one_eq_mod x 64
  rw [Nat.mod_eq_of_lt (by simpa using hx)] at this
  simpa using this
def full : Nat := 18446744073709551615
def hsum (l : List Nat) : Nat := msum full l
theorem hsum_lt (l : List Nat) : hsum l < 18446744073709551616 := Nat.lt_of_le_of_lt Nat.and_le_right (by decide)
set_option maxRecDepth 100000 in
theorem hsum_any (s : ByteArray) (w : World) (hs : s.size ≤ 9223372036854775807) : Calls Tryd.prog 120 #[.string s] w fun e w' => e = .returned (.int .u64 (hsum (strN s) : Nat)) ∧ Below w.heap.size w w' := by
  have HC := Lib.hid fun wx => sum_any s full wx hs (by decide)
  have hr : Hid (hsum (strN s) = msum full (strN s)) := rfl
  generalize hsum (strN s) = r at *
  rw [← hr.out] at HC
  clear hr
  have HC2 : Hid (∀ wx : World, Calls Tryd.prog 157 #[.string s, .int .u64 18446744073709551615] wx fun e w' => e = .returned (.int .u64 (r : Int)) ∧ Below wx.heap.size wx w') := HC
  clear HC
  go_enter Tryd.func120, Tryd.ntmps120
  go_wp2_with fail
  refine (HC2.out _).mono ?_
  rintro e w2 ⟨rfl, hb⟩
  go_wp2_with fail
  go_ret
  exact ⟨rfl, hb⟩
end Go.Proofs.YtbfhhnpoogmlnaaDoor
namespace Go.Proofs.YtbfhhnpoogmlnaaDoor
open Go.RowKit Plain
namespace Plain
theorem vl_be8 (g : Nat) (hg : g < 18446744073709551616) : vl (be8 g) = g := by
  have a1 : g / 65536 = g / 256 / 256 := by rw [Nat.div_div_eq_div_mul]
  have a2 : g / 16777216 = g / 65536 / 256 := by rw [Nat.div_div_eq_div_mul]
  have a3 : g / 4294967296 = g / 16777216 / 256 := by rw [Nat.div_div_eq_div_mul]
  have a4 : g / 1099511627776 = g / 4294967296 / 256 := by rw [Nat.div_div_eq_div_mul]
  have a5 : g / 281474976710656 = g / 1099511627776 / 256 := by rw [Nat.div_div_eq_div_mul]
  have a6 : g / 72057594037927936 = g / 281474976710656 / 256 := by rw [Nat.div_div_eq_div_mul]
  have a7 : g / 72057594037927936 < 256 := by omega
  simp only [be8, vl, List.foldl_cons, List.foldl_nil]
  generalize g / 72057594037927936 = g7 at *
  generalize g / 281474976710656 = g6 at *
  generalize g / 1099511627776 = g5 at *
  generalize g / 4294967296 = g4 at *
  generalize g / 16777216 = g3 at *
  generalize g / 65536 = g2 at *
  generalize h1 : g / 256 = g1 at *
  have e0 : g = 256 * g1 + g % 256 := by omega
  have e1 : g1 = 256 * g2 + g1 % 256 := by omega
  have e2 : g2 = 256 * g3 + g2 % 256 := by omega
  have e3 : g3 = 256 * g4 + g3 % 256 := by omega
  have e4 : g4 = 256 * g5 + g4 % 256 := by omega
  have e5 : g5 = 256 * g6 + g5 % 256 := by omega
  have e6 : g6 = 256 * g7 + g6 % 256 := by omega
  generalize g % 256 = r0 at *
  generalize g1 % 256 = r1 at *
  generalize g2 % 256 = r2 at *
  generalize g3 % 256 = r3 at *
  generalize g4 % 256 = r4 at *
  generalize g5 % 256 = r5 at *
  generalize g6 % 256 = r6 at *
  rw [Nat.mod_eq_of_lt a7]
  subst e6 e5 e4 e3 e2 e1
  omega
end Plain
theorem info_byte : (Tryd.prog.info? 5).map (fun i => (i.zero, i.size, i.bytes)) = some (some (.int .u8 0), 1, 1) := by kernel_rfl
theorem be8_row (h : Nat) : [Value.int .u8 ((h : Int) / 72057594037927936 % 256), .int .u8 ((h : Int) / 281474976710656 % 256), .int .u8 ((h : Int) / 1099511627776 % 256), .int .u8 ((h : Int) / 4294967296 % 256), .int .u8 ((h : Int) / 16777216 % 256), .int .u8 ((h : Int) / 65536 % 256), .int .u8 ((h : Int) / 256 % 256), .int .u8 ((h : Int) % 256)] = (be8 h).map bV := by
  simp only [be8, List.map_cons, List.map_nil, bV]
  simp
def App64End (w0 : World) (x : Nat) (e : Ending) (w : World) : Prop := ∃ v, e = .returned v ∧ w.ownsRow w0.heap.size 5 1 v (be8 x).length ((be8 x).map bV) ∧ Below w0.heap.size w0 w
set_option maxRecDepth 100000 in
theorem app64_any (x : Nat) (w : World) : Calls Tryd.prog 154 #[.agg #[], .slice none 0 0, .int .u64 (x : Int)] w (App64End w x) := by
  obtain ⟨i0, hi0, hz0, hz1, hz2⟩ := info_parts info_byte
  have B1 := Lib.hid ((Below.refl w.heap.size w).alloc (Nat.le_refl _) (.cells #[] 206))
  have BC := Lib.hid (be8_row x)
  have D2 : Hid (∀ u ∈ (be8 x).map bV, u.oneCell' = true) := by
    intro u hu
    obtain ⟨c, _, rfl⟩ := List.mem_map.1 hu
    rfl
  have D3 : Hid (0 + 8 ≤ maxLen) := by show _ ≤ _; unfold maxLen; omega
  have D4 : Hid ((0 + 8) * 1 ≤ 140737488355328) := by show _ ≤ _; omega
  generalize hc0 : (x : Int) / 72057594037927936 % 256 = c0 at BC
  generalize hc1 : (x : Int) / 281474976710656 % 256 = c1 at BC
  generalize hc2 : (x : Int) / 1099511627776 % 256 = c2 at BC
  generalize hc3 : (x : Int) / 4294967296 % 256 = c3 at BC
  generalize hc4 : (x : Int) / 16777216 % 256 = c4 at BC
  generalize hc5 : (x : Int) / 65536 % 256 = c5 at BC
  generalize hc6 : (x : Int) / 256 % 256 = c6 at BC
  generalize hc7 : (x : Int) % 256 = c7 at BC
  have D1 := Lib.hid (cells_new_at (w.alloc (.cells #[] 206)) (w.heap.size + 1) (by simp) #[.int .u8 c0, .int .u8 c1, .int .u8 c2, .int .u8 c3, .int .u8 c4, .int .u8 c5, .int .u8 c6, .int .u8 c7] 5 ((be8 x).map bV) BC.out.symm)
  have D5 : Hid (w.heap.size ≤ ((w.alloc (.cells #[] 206)).alloc (.cells #[.int .u8 c0, .int .u8 c1, .int .u8 c2, .int .u8 c3, .int .u8 c4, .int .u8 c5, .int .u8 c6, .int .u8 c7] 5)).heap.size) := by show _ ≤ _; simp; omega
  have D6 : Hid (((be8 x).map bV).length = 8 * 1) := rfl
  go_enter Tryd.func154, Tryd.ntmps154
  go_wp2_with (at_builtin; refine wpList_append_own _ rfl _ _ 92 rfl w.heap.size 5 i0 (.int .u8 0) 1 1 Tryd.underlying92 hi0 hz0 hz1 hz2 rfl (by decide) (.slice none 0 0) 0 [] rfl (World.ownsRow_nil _ _ _ _) ⟨w.heap.size + 1, 0, none⟩ 8 8 ((be8 x).map bV) rfl D6.out D1.out D2.out D3.out D4.out D5.out ?_)
  intro v' w2 hown' hgrow _
  have BW := Lib.hid (below_own (Below.alloc B1.out B1.out.size _) hgrow (by simp; omega) (World.ownsRow_nil _ w.heap.size 5 1) (Nat.le_refl _))
  have OW : Hid (w2.ownsRow w.heap.size 5 1 v' (be8 x).length ((be8 x).map bV)) := hown'
  clear hown' hgrow
  go_wp2_with fail
  go_ret
  exact ⟨_, rfl, OW.out, BW.out⟩
end Go.Proofs.YtbfhhnpoogmlnaaDoor
