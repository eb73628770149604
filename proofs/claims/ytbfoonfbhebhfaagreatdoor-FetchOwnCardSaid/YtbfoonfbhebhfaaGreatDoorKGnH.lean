/- Joined: NumPlain, TreePlain. -/
import Derived.WalkKit
namespace Go.Proofs.YtbfoonfbhebhfaaGreatDoor
namespace Plain
/-! the order of strings of bytes -/
def vl (l : List Nat) : Nat := l.foldl (fun n c => n * 256 + c) 0
theorem vl_foldl : ∀ (l : List Nat) (n : Nat), l.foldl (fun n c => n * 256 + c) n = n * 256 ^ l.length + vl l
 | [], n => by simp [vl]
 | a :: x, n => by
  rw [List.foldl_cons, vl_foldl x, show vl (a :: x) = x.foldl (fun n c => n * 256 + c) (0 * 256 + a) from rfl, vl_foldl x (0 * 256 + a)]
  rw [List.length_cons, Nat.pow_succ, Nat.add_mul, Nat.add_mul, Nat.mul_assoc, Nat.mul_comm 256]
  omega
theorem vl_cons (a : Nat) (x : List Nat) : vl (a :: x) = a * 256 ^ x.length + vl x := by
 rw [show vl (a :: x) = x.foldl (fun n c => n * 256 + c) (0 * 256 + a) from rfl, vl_foldl]
 simp
theorem vl_snoc (l : List Nat) (c : Nat) : vl (l ++ [c]) = vl l * 256 + c := by simp [vl]
theorem vl_lt : ∀ l : List Nat, (∀ c ∈ l, c < 256) → vl l < 256 ^ l.length
 | [], _ => by simp [vl]
 | a :: x, h => by
  have ih := vl_lt x fun c hc => h c (List.mem_cons_of_mem _ hc)
  have ha := h a (by simp)
  have h1 : (a + 1) * 256 ^ x.length ≤ 256 * 256 ^ x.length := Nat.mul_le_mul_right _ (by omega)
  rw [Nat.succ_mul] at h1
  rw [vl_cons]
  simp only [List.length_cons, Nat.pow_succ]
  omega
def Dig (l : List Nat) : Prop := (∀ c ∈ l, c < 256) ∧ (∀ a x, l = a :: x → a ≠ 0)
theorem Dig.nil : Dig [] := ⟨by simp, by simp⟩
theorem Dig.low {l : List Nat} (h : Dig l) (hl : l ≠ []) : 256 ^ (l.length - 1) ≤ vl l := by
 cases l with
 | nil => exact absurd rfl hl
 | cons a x =>
  have := h.2 a x rfl
  rw [vl_cons, List.length_cons, Nat.add_sub_cancel]
  have : 1 * 256 ^ x.length ≤ a * 256 ^ x.length := Nat.mul_le_mul_right _ (by omega)
  omega
theorem Dig.lt_of_length {l m : List Nat} (h : Dig l) (g : Dig m) (hl : l.length < m.length) : vl l < vl m := by
 have h1 := vl_lt l h.1
 have h2 := g.low (by rintro rfl; simp at hl)
 have h3 : 256 ^ l.length ≤ 256 ^ (m.length - 1) := Nat.pow_le_pow_right (by decide) (by omega)
 omega
theorem vl_inj : ∀ (l m : List Nat), l.length = m.length → (∀ c ∈ l, c < 256) → (∀ c ∈ m, c < 256) → vl l = vl m → l = m
 | [], [], _, _, _, _ => rfl
 | a :: x, b :: y, hl, h1, h2, e => by
  have hl' : x.length = y.length := by simpa using hl
  have vx := vl_lt x fun c hc => h1 c (List.mem_cons_of_mem _ hc)
  have vy := vl_lt y fun c hc => h2 c (List.mem_cons_of_mem _ hc)
  rw [← hl'] at vy
  rw [vl_cons, vl_cons, ← hl'] at e
  have hab : a = b := by
   rcases Nat.lt_trichotomy a b with h | h | h
   ·
    have h3 : (a + 1) * 256 ^ x.length ≤ b * 256 ^ x.length := Nat.mul_le_mul_right _ h
    rw [Nat.succ_mul] at h3
    omega
   ·
    exact h
   ·
    have h3 : (b + 1) * 256 ^ x.length ≤ a * 256 ^ x.length := Nat.mul_le_mul_right _ h
    rw [Nat.succ_mul] at h3
    omega
  subst hab
  rw [vl_inj x y hl' (fun c hc => h1 c (List.mem_cons_of_mem _ hc)) (fun c hc => h2 c (List.mem_cons_of_mem _ hc)) (by omega)]
theorem Dig.inj {l m : List Nat} (h : Dig l) (g : Dig m) (e : vl l = vl m) : l = m := by
 rcases Nat.lt_trichotomy l.length m.length with hl | hl | hl
 ·
  have := h.lt_of_length g hl; omega
 ·
  exact vl_inj l m hl h.1 g.1 e
 ·
  have := g.lt_of_length h hl; omega
def strip : List Nat → List Nat
 | [] => []
 | 0 :: x => strip x
 | (a + 1) :: x => (a + 1) :: x
theorem strip_dig : ∀ l : List Nat, (∀ c ∈ l, c < 256) → Dig (strip l)
 | [], _ => Dig.nil
 | 0 :: x, h => strip_dig x fun c hc => h c (List.mem_cons_of_mem _ hc)
 | (a + 1) :: x, h => ⟨h, fun b y e => by simp only [strip, List.cons.injEq] at e; omega⟩
theorem strip_vl : ∀ l : List Nat, vl (strip l) = vl l
 | [] => rfl
 | 0 :: x => by rw [strip, strip_vl x, vl_cons]; omega
 | (a + 1) :: x => rfl
theorem strip_length : ∀ l : List Nat, (strip l).length ≤ l.length
 | [] => Nat.le_refl _
 | 0 :: x => by rw [strip, List.length_cons]; have := strip_length x; omega
 | (a + 1) :: x => Nat.le_refl _
def Digs (n : Nat) (l : List Nat) : Prop := Dig l ∧ l.length ≤ 8 ∧ vl l = n
theorem Digs.unique {n : Nat} {l m : List Nat} (h : Digs n l) (g : Digs n m) : l = m := h.1.inj g.1 (h.2.2.trans g.2.2.symm)
def Num (n : Nat) (s : List Nat) : Prop := ∃ l, Digs n l ∧ s = l.length :: l
theorem Num.unique {n : Nat} {s t : List Nat} (h : Num n s) (g : Num n t) : s = t := by
 obtain ⟨l, hl, rfl⟩ := h
 obtain ⟨m, hm, rfl⟩ := g
 rw [hl.unique hm]
theorem Num.lt {n : Nat} {s : List Nat} (h : Num n s) : ∀ c ∈ s, c < 256 := by
 obtain ⟨l, hl, rfl⟩ := h
 intro c hc
 rcases List.mem_cons.1 hc with rfl | hc
 ·
  have := hl.2.1; omega
 ·
  exact hl.1.1 c hc
theorem Num.length {n : Nat} {s : List Nat} (h : Num n s) : 1 ≤ s.length ∧ s.length ≤ 9 := by
 obtain ⟨l, hl, rfl⟩ := h
 have := hl.2.1
 simp only [List.length_cons]
 omega
def getN (s : List Nat) : Nat × Nat × Nat :=
 match s with
 | [] => (0, 0, 3)
 | k :: x =>
  if 8 < k then (0, 0, 4)
  else if x.length < k then (0, 0, 3)
  else if 0 < k ∧ x.getD 0 0 = 0 then (0, 0, 4)
  else (vl (x.take k), 1 + k, 0)
theorem getN_num {n : Nat} {s : List Nat} (h : Num n s) (more : List Nat) : getN (s ++ more) = (n, s.length, 0) := by
 obtain ⟨l, hl, rfl⟩ := h
 have h8 := hl.2.1
 rw [List.cons_append, getN, if_neg (by omega), if_neg (by rw [List.length_append]; omega), if_neg, List.take_left, hl.2.2, List.length_cons, Nat.add_comm]
 rintro ⟨h1, h2⟩
 cases l with
 | nil => simp at h1
 | cons a x =>
  simp only [List.cons_append, List.getD_cons_zero] at h2
  exact hl.1.2 a x rfl h2
theorem getN_back {s : List Nat} (hs : ∀ c ∈ s, c < 256) {n k : Nat} (h : getN s = (n, k, 0)) : k ≤ s.length ∧ Num n (s.take k) := by
 cases s with
 | nil => simp [getN] at h
 | cons c x =>
  rw [getN] at h
  split at h
  ·
   simp at h
  ·
   split at h
   ·
    simp at h
   ·
    split at h
    ·
     simp at h
    ·
     rename_i h1 h2 h3
     simp only [Prod.mk.injEq, and_true] at h
     obtain ⟨rfl, rfl⟩ := h
     have hlen : (x.take c).length = c := by rw [List.length_take]; omega
     refine ⟨by rw [List.length_cons]; omega, x.take c, ⟨⟨fun d hd => hs d (List.mem_cons_of_mem _ (List.mem_of_mem_take hd)), fun a y e => ?_⟩, by omega, rfl⟩, by rw [hlen, Nat.add_comm, List.take_succ_cons]⟩
     rintro rfl
     cases x with
     | nil => simp at e
     | cons b z =>
      cases c with
      | zero => simp at e
      | succ c =>
       simp only [List.take_succ_cons, List.cons.injEq] at e
       exact h3 ⟨by omega, by simpa using e.1⟩
theorem getN_bound (s : List Nat) : (getN s).2.1 ≤ s.length ∧ (getN s).2.1 ≤ 9 := by
 cases s with
 | nil => simp [getN]
 | cons a x =>
  rw [getN]
  split
  ·
   simp
  ·
   split
   ·
    simp
   ·
    split
    ·
     simp
    ·
     simp only [List.length_cons]; omega
theorem Num.free {a b : Nat} {s t : List Nat} (h : Num a s) (g : Num b t) : t <+: s ↔ a = b := by
 constructor
 ·
  rintro ⟨r, rfl⟩
  have e1 := getN_num g r
  have e2 := getN_num h []
  rw [List.append_nil, e1] at e2
  simp only [Prod.mk.injEq] at e2
  exact e2.1.symm
 ·
  rintro rfl
  rw [h.unique g]
  exact List.prefix_refl _
/-! an integer -/
def flp (l : List Nat) : List Nat := l.map (255 - ·)
theorem flp_flp {l : List Nat} (h : ∀ c ∈ l, c < 256) : flp (flp l) = l := by
 unfold flp
 rw [List.map_map]
 conv => rhs; rw [← List.map_id l]
 apply List.map_congr_left
 intro c hc
 have := h c hc
 simp only [Function.comp, id]
 omega
theorem flp_lt (l : List Nat) : ∀ c ∈ flp l, c < 256 := by
 intro c hc
 obtain ⟨d, _, rfl⟩ := List.mem_map.1 hc
 omega
def INum (n : Int) (s : List Nat) : Prop :=
 (0 ≤ n ∧ ∃ l, Digs n.toNat l ∧ s = (128 + l.length) :: l) ∨ (n < 0 ∧ ∃ l, Digs (-1 - n).toNat l ∧ s = (127 - l.length) :: flp l)
theorem INum.unique {n : Int} {s t : List Nat} (h : INum n s) (g : INum n t) : s = t := by
 rcases h with ⟨h0, l, hl, rfl⟩ | ⟨h0, l, hl, rfl⟩ <;> rcases g with ⟨g0, m, hm, rfl⟩ | ⟨g0, m, hm, rfl⟩
 ·
  rw [hl.unique hm]
 ·
  omega
 ·
  omega
 ·
  rw [hl.unique hm]
theorem INum.lt {n : Int} {s : List Nat} (h : INum n s) : ∀ c ∈ s, c < 256 := by
 rcases h with ⟨_, l, hl, rfl⟩ | ⟨_, l, hl, rfl⟩ <;> intro c hc <;> rcases List.mem_cons.1 hc with rfl | hc
 ·
  have := hl.2.1; omega
 ·
  exact hl.1.1 c hc
 ·
  omega
 ·
  exact flp_lt l c hc
def getI (s : List Nat) : Int × Nat × Nat :=
 match s with
 | [] => (0, 0, 3)
 | c :: x =>
  let k := if c < 128 then 127 - c else c - 128
  let d := if c < 128 then flp (x.take k) else x.take k
  if 8 < k then (0, 0, 4)
  else if x.length < k then (0, 0, 3)
  else if (0 < k ∧ d.getD 0 0 = 0) ∨ 9223372036854775807 < vl d then (0, 0, 4)
  else (if c < 128 then -1 - (vl d : Int) else (vl d : Int), 1 + k, 0)
theorem dig_first {l : List Nat} (h : Dig l) : ¬ (0 < l.length ∧ l.getD 0 0 = 0) := by
 rintro ⟨h1, h2⟩
 cases l with
 | nil => simp at h1
 | cons a x => exact h.2 a x rfl (by simpa using h2)
theorem getI_num {n : Int} {s : List Nat} (h : INum n s) (hn : -9223372036854775808 ≤ n ∧ n ≤ 9223372036854775807) (more : List Nat) : getI (s ++ more) = (n, s.length, 0) := by
 rcases h with ⟨h0, l, hl, rfl⟩ | ⟨h0, l, hl, rfl⟩
 ·
  have h8 := hl.2.1
  have e1 : ¬ 128 + l.length < 128 := by omega
  have e2 : 128 + l.length - 128 = l.length := by omega
  have e3 : (l ++ more).take l.length = l := List.take_left
  have hv := hl.2.2
  simp only [List.cons_append, getI, e1, if_false, e2, e3]
  rw [if_neg (by omega), if_neg (by rw [List.length_append]; omega), if_neg (by rintro (h | h); exact dig_first hl.1 h; omega)]
  simp only [List.length_cons, Prod.mk.injEq, and_true]
  omega
 ·
  have h8 := hl.2.1
  have e1 : 127 - l.length < 128 := by omega
  have e2 : 127 - (127 - l.length) = l.length := by omega
  have e4 : (flp l).length = l.length := by simp [flp]
  have e3 : (flp l ++ more).take l.length = flp l := by rw [← e4]; exact List.take_left
  have hv := hl.2.2
  simp only [List.cons_append, getI, e1, if_true, e2, e3, flp_flp hl.1.1]
  rw [if_neg (by omega), if_neg (by rw [List.length_append]; omega), if_neg (by rintro (h | h); exact dig_first hl.1 h; omega)]
  simp only [List.length_cons, Prod.mk.injEq, and_true, e4]
  omega
theorem dig_of_first {l : List Nat} (h : ∀ c ∈ l, c < 256) (h2 : ¬ (0 < l.length ∧ l.getD 0 0 = 0)) : Dig l := ⟨h, by
 rintro a x rfl ha
 exact h2 ⟨by simp, by simpa using ha⟩⟩
theorem getI_back {s : List Nat} (hs : ∀ c ∈ s, c < 256) {n : Int} {k : Nat} (h : getI s = (n, k, 0)) : k ≤ s.length ∧ INum n (s.take k) ∧ -9223372036854775808 ≤ n ∧ n ≤ 9223372036854775807 := by
 cases s with
 | nil => simp [getI] at h
 | cons c x =>
  have hc : c < 256 := hs c (by simp)
  have hx : ∀ d ∈ x, d < 256 := fun d hd => hs d (List.mem_cons_of_mem _ hd)
  by_cases e1 : c < 128
  ·
   simp only [getI, e1, if_true] at h
   split at h
   ·
    simp at h
   ·
    split at h
    ·
     simp at h
    ·
     split at h
     ·
      simp at h
     ·
      rename_i h1 h2 h3
      simp only [Prod.mk.injEq, and_true] at h
      obtain ⟨rfl, rfl⟩ := h
      have hlen : (flp (x.take (127 - c))).length = 127 - c := by simp [flp]; omega
      refine ⟨by rw [List.length_cons]; omega, .inr ⟨by omega, flp (x.take (127 - c)), ⟨dig_of_first (flp_lt _) (fun h => h3 (.inl ⟨by rw [← hlen]; exact h.1, h.2⟩)), by omega, by omega⟩, ?_⟩, by omega, by omega⟩
      rw [hlen, flp_flp (fun d hd => hx d (List.mem_of_mem_take hd)), Nat.add_comm 1, List.take_succ_cons]
      congr 1
      omega
  ·
   simp only [getI, e1, if_false] at h
   split at h
   ·
    simp at h
   ·
    split at h
    ·
     simp at h
    ·
     split at h
     ·
      simp at h
     ·
      rename_i h1 h2 h3
      simp only [Prod.mk.injEq, and_true] at h
      obtain ⟨rfl, rfl⟩ := h
      have hlen : (x.take (c - 128)).length = c - 128 := by rw [List.length_take]; omega
      refine ⟨by rw [List.length_cons]; omega, .inl ⟨by omega, x.take (c - 128), ⟨dig_of_first (fun d hd => hx d (List.mem_of_mem_take hd)) (fun h => h3 (.inl ⟨by rw [← hlen]; exact h.1, h.2⟩)), by omega, by omega⟩, ?_⟩, by omega, by omega⟩
      rw [hlen, Nat.add_comm 1, List.take_succ_cons, show 128 + (c - 128) = c by omega]
theorem INum.free {a b : Int} {s t : List Nat} (h : INum a s) (g : INum b t) (ha : -9223372036854775808 ≤ a ∧ a ≤ 9223372036854775807) (hb : -9223372036854775808 ≤ b ∧ b ≤ 9223372036854775807) : t <+: s ↔ a = b := by
 constructor
 ·
  rintro ⟨r, rfl⟩
  have e1 := getI_num g hb r
  have e2 := getI_num h ha []
  rw [List.append_nil, e1] at e2
  simp only [Prod.mk.injEq] at e2
  exact e2.1.symm
 ·
  rintro rfl
  rw [h.unique g]
  exact List.prefix_refl _
/-! a text -/
def esc : List Nat → List Nat
 | [] => []
 | 0 :: x => 0 :: 255 :: esc x
 | (a + 1) :: x => (a + 1) :: esc x
def putT (l : List Nat) : List Nat := esc l ++ [0, 0]
theorem esc_append : ∀ l m : List Nat, esc (l ++ m) = esc l ++ esc m
 | [], m => rfl
 | 0 :: x, m => by simp [esc, esc_append x m]
 | (a + 1) :: x, m => by simp [esc, esc_append x m]
theorem esc_lt : ∀ l : List Nat, (∀ c ∈ l, c < 256) → ∀ c ∈ esc l, c < 256
 | [], _ => by simp [esc]
 | 0 :: x, h => by
  have ih := esc_lt x fun c hc => h c (List.mem_cons_of_mem _ hc)
  intro c hc
  simp only [esc, List.mem_cons] at hc
  rcases hc with rfl | rfl | hc
  ·
   decide
  ·
   decide
  ·
   exact ih c hc
 | (a + 1) :: x, h => by
  have ih := esc_lt x fun c hc => h c (List.mem_cons_of_mem _ hc)
  intro c hc
  simp only [esc, List.mem_cons] at hc
  rcases hc with rfl | hc
  ·
   exact h _ (by simp)
  ·
   exact ih c hc
theorem putT_lt {l : List Nat} (h : ∀ c ∈ l, c < 256) : ∀ c ∈ putT l, c < 256 := by
 intro c hc
 rcases List.mem_append.1 hc with hc | hc
 ·
  exact esc_lt l h c hc
 ·
  simp at hc; omega
theorem putT_inj : ∀ (l m r : List Nat), putT l = putT m ++ r → l = m ∧ r = []
 | [], [], r, h => by simpa [putT, esc] using h.symm
 | [], 0 :: y, r, h => by simp [putT, esc] at h
 | [], (b + 1) :: y, r, h => by simp [putT, esc] at h
 | 0 :: x, [], r, h => by simp [putT, esc] at h
 | (a + 1) :: x, [], r, h => by simp [putT, esc] at h
 | 0 :: x, 0 :: y, r, h => by
  have := putT_inj x y r (by simpa [putT, esc] using h)
  exact ⟨by rw [this.1], this.2⟩
 | 0 :: x, (b + 1) :: y, r, h => by simp [putT, esc] at h
 | (a + 1) :: x, 0 :: y, r, h => by simp [putT, esc] at h
 | (a + 1) :: x, (b + 1) :: y, r, h => by
  simp only [putT, esc, List.cons_append, List.cons.injEq] at h
  have := putT_inj x y r (by simpa [putT] using h.2)
  exact ⟨by rw [this.1, h.1], this.2⟩
theorem putT_free (l m : List Nat) : putT m <+: putT l ↔ l = m := by
 constructor
 ·
  rintro ⟨r, h⟩
  exact (putT_inj l m r h.symm).1
 ·
  rintro rfl
  exact List.prefix_refl _
inductive GT (s : List Nat) : List Nat → Nat → Prop
 | start : GT s [] 0
 | plain {o : List Nat} {i : Nat} : GT s o i → i < s.length → s.getD i 0 ≠ 0 → o.length < 1024 → GT s (o ++ [s.getD i 0]) (i + 1)
 | zero {o : List Nat} {i : Nat} : GT s o i → i + 1 < s.length → s.getD i 0 = 0 → s.getD (i + 1) 0 = 255 → o.length < 1024 → GT s (o ++ [0]) (i + 2)
theorem take_snoc' (l : List Nat) (k : Nat) (h : k < l.length) : l.take (k + 1) = l.take k ++ [l.getD k 0] := by
 rw [List.take_succ_eq_append_getElem h, List.getD_eq_getElem?_getD, List.getElem?_eq_getElem h]
 rfl
theorem esc_one {c : Nat} (h : c ≠ 0) : esc [c] = [c] := by
 cases c with
 | zero => exact absurd rfl h
 | succ a => rfl
theorem GT.at {s o : List Nat} {i : Nat} (h : GT s o i) : esc o = s.take i ∧ i ≤ s.length ∧ o.length ≤ 1024 ∧ o.length ≤ i := by
 induction h with
 | start => exact ⟨rfl, by omega, by simp, by simp⟩
 | @plain o i _ h1 h2 h3 ih =>
  obtain ⟨e, h4, h5, h6⟩ := ih
  refine ⟨?_, by omega, by rw [List.length_append, List.length_singleton]; omega, by rw [List.length_append, List.length_singleton]; omega⟩
  rw [esc_append, e, take_snoc' s i h1, esc_one h2]
 | @zero o i _ h1 h2 h3 h4 ih =>
  obtain ⟨e, h5, h6, h7⟩ := ih
  refine ⟨?_, by omega, by rw [List.length_append, List.length_singleton]; omega, by rw [List.length_append, List.length_singleton]; omega⟩
  rw [esc_append, e, take_snoc' s (i + 1) h1, take_snoc' s i (by omega), h2, h3, List.append_assoc]
  rfl
def GTEnd (s t : List Nat) (k c : Nat) : Prop :=
 (c = 0 ∧ ∃ i, GT s t i ∧ k = i + 2 ∧ i + 1 < s.length ∧ s.getD i 0 = 0 ∧ s.getD (i + 1) 0 = 0) ∨
 (t = [] ∧ k = 0 ∧ ((c = 3 ∧ ∃ o i, GT s o i ∧ (i = s.length ∨ (i + 1 = s.length ∧ s.getD i 0 = 0))) ∨
  (c = 4 ∧ ∃ o i, GT s o i ∧ i + 1 < s.length ∧ s.getD i 0 = 0 ∧ s.getD (i + 1) 0 ≠ 0 ∧ s.getD (i + 1) 0 ≠ 255) ∨
  (c = 2 ∧ ∃ o i, GT s o i ∧ o.length = 1024 ∧ i < s.length ∧ (s.getD i 0 ≠ 0 ∨ (i + 1 < s.length ∧ s.getD (i + 1) 0 = 255)))))
theorem GTEnd.ok {s t : List Nat} {k : Nat} (h : GTEnd s t k 0) : k ≤ s.length ∧ putT t = s.take k ∧ t.length ≤ 1024 := by
 rcases h with ⟨_, i, h1, rfl, h2, h3, h4⟩ | ⟨_, _, h⟩
 ·
  obtain ⟨e, _, h5, _⟩ := h1.at
  refine ⟨by omega, ?_, h5⟩
  rw [putT, e, take_snoc' s (i + 1) h2, take_snoc' s i (by omega), h3, h4, List.append_assoc]
  rfl
 ·
  rcases h with ⟨h, _⟩ | ⟨h, _⟩ | ⟨h, _⟩ <;> omega
theorem getD_append_right' (a b : List Nat) (j : Nat) : (a ++ b).getD (a.length + j) 0 = b.getD j 0 := by
 rw [List.getD_eq_getElem?_getD, List.getD_eq_getElem?_getD, List.getElem?_append_right (by omega)]
 congr 2
 omega
theorem GT.within {l more o : List Nat} {i : Nat} (h : GT (putT l ++ more) o i) : ∃ d, l = o ++ d ∧ i = (esc o).length := by
 induction h with
 | start => exact ⟨l, rfl, rfl⟩
 | @plain o i hg h1 h2 h3 ih =>
  obtain ⟨d, rfl, rfl⟩ := ih
  have hs : putT (o ++ d) ++ more = esc o ++ (esc d ++ [0, 0] ++ more) := by rw [putT, esc_append]; simp
  have hg2 := getD_append_right' (esc o) (esc d ++ [0, 0] ++ more) 0
  rw [← hs, Nat.add_zero] at hg2
  rw [hg2] at h2 ⊢
  cases d with
  | nil => simp [esc] at h2
  | cons a x =>
   cases a with
   | zero => simp [esc] at h2
   | succ a => exact ⟨x, by simp [esc], by simp [esc, esc_append]⟩
 | @zero o i hg h1 h2 h3 h4 ih =>
  obtain ⟨d, rfl, rfl⟩ := ih
  have hs : putT (o ++ d) ++ more = esc o ++ (esc d ++ [0, 0] ++ more) := by rw [putT, esc_append]; simp
  have hg2 := getD_append_right' (esc o) (esc d ++ [0, 0] ++ more) 1
  have hg1 := getD_append_right' (esc o) (esc d ++ [0, 0] ++ more) 0
  rw [← hs] at hg2 hg1
  rw [Nat.add_zero] at hg1
  rw [hg2] at h3
  rw [hg1] at h2
  cases d with
  | nil => simp [esc] at h3
  | cons a x =>
   cases a with
   | zero => exact ⟨x, by simp, by simp [esc, esc_append]⟩
   | succ a => simp [esc] at h2
theorem GTEnd.back {l more t : List Nat} {k c : Nat} (hl : l.length ≤ 1024) (h : GTEnd (putT l ++ more) t k c) : c = 0 ∧ t = l ∧ k = (putT l).length := by
 have split : ∀ o d : List Nat, l = o ++ d → putT l ++ more = esc o ++ (esc d ++ [0, 0] ++ more) := by rintro o d rfl; rw [putT, esc_append]; simp
 have at0 : ∀ o d : List Nat, l = o ++ d → ∀ j, (putT l ++ more).getD ((esc o).length + j) 0 = (esc d ++ [0, 0] ++ more).getD j 0 := by
  intro o d e j
  rw [split o d e]
  exact getD_append_right' _ _ _
 have len : (putT l ++ more).length = (esc l).length + 2 + more.length := by simp [putT]; omega
 rcases h with ⟨rfl, i, h1, rfl, h2, h3, h4⟩ | ⟨rfl, rfl, h⟩
 ·
  obtain ⟨d, e, rfl⟩ := h1.within
  have g1 := at0 t d e 1
  have g0 := at0 t d e 0
  rw [Nat.add_zero] at g0
  rw [g0] at h3
  rw [g1] at h4
  cases d with
  | nil => rw [List.append_nil] at e; subst e; exact ⟨rfl, rfl, by simp [putT]⟩
  | cons a x =>
   cases a with
   | zero => simp [esc] at h4
   | succ a => simp [esc] at h3
 ·
  exfalso
  rcases h with ⟨_, o, i, h1, h2⟩ | ⟨_, o, i, h1, h2, h3, h4, h5⟩ | ⟨_, o, i, h1, h2, h3, h4⟩
  ·
   obtain ⟨d, e, rfl⟩ := h1.within
   have e2 : (esc l).length = (esc o).length + (esc d).length := by rw [e, esc_append, List.length_append]
   have g0 := at0 o d e 0
   rw [Nat.add_zero] at g0
   rcases h2 with h2 | ⟨h2, h3⟩
   ·
    omega
   ·
    omega
  ·
   obtain ⟨d, e, rfl⟩ := h1.within
   have g1 := at0 o d e 1
   have g0 := at0 o d e 0
   rw [Nat.add_zero] at g0
   rw [g0] at h3
   rw [g1] at h4 h5
   cases d with
   | nil => simp [esc] at h4
   | cons a x =>
    cases a with
    | zero => simp [esc] at h5
    | succ a => simp [esc] at h3
  ·
   obtain ⟨d, e, rfl⟩ := h1.within
   have el : d = [] := by
    cases d with
    | nil => rfl
    | cons a x => rw [e, List.length_append, List.length_cons] at hl; omega
   subst el
   have g1 := at0 o [] e 1
   have g0 := at0 o [] e 0
   rw [Nat.add_zero] at g0
   rcases h4 with h4 | ⟨_, h4⟩
   ·
    rw [g0] at h4; simp [esc] at h4
   ·
    rw [g1] at h4; simp [esc] at h4
end Plain
end Go.Proofs.YtbfoonfbhebhfaaGreatDoor
namespace Go.Proofs.YtbfoonfbhebhfaaGreatDoor
namespace Plain
open Classical in
noncomputable def getT (s : List Nat) : Option (List Nat × List Nat) :=
 if h : ∃ p : List Nat × List Nat, p.1.length ≤ 1024 ∧ s = putT p.1 ++ p.2 then some h.choose else none
theorem putT_parse {l m r u : List Nat} (h : putT l ++ r = putT m ++ u) : l = m ∧ r = u := by
 have e : l = m := by
  rcases List.append_eq_append_iff.1 h with ⟨x, h1, _⟩ | ⟨x, h1, _⟩
  ·
   exact (putT_free m l).1 ⟨x, h1.symm⟩ |>.symm
  ·
   exact (putT_free l m).1 ⟨x, h1.symm⟩
 subst e
 exact ⟨rfl, List.append_cancel_left h⟩
theorem getT_put {l : List Nat} (hl : l.length ≤ 1024) (more : List Nat) : getT (putT l ++ more) = some (l, more) := by
 unfold getT
 have h : ∃ p : List Nat × List Nat, p.1.length ≤ 1024 ∧ putT l ++ more = putT p.1 ++ p.2 := ⟨(l, more), hl, rfl⟩
 rw [dif_pos h]
 obtain ⟨_, h2⟩ := h.choose_spec
 obtain ⟨e1, e2⟩ := putT_parse h2
 congr 1
 exact Prod.ext e1.symm e2.symm
theorem getT_back {s t r : List Nat} (h : getT s = some (t, r)) : t.length ≤ 1024 ∧ s = putT t ++ r := by
 unfold getT at h
 split at h
 ·
  rename_i hx
  injection h with h
  have := hx.choose_spec
  rw [h] at this
  exact this
 ·
  cases h
theorem getT_end {s t : List Nat} {k c : Nat} (h : GTEnd s t k c) : (c = 0 → getT s = some (t, s.drop k)) ∧ (c ≠ 0 → getT s = none) := by
 constructor
 ·
  rintro rfl
  obtain ⟨_, h2, h3⟩ := h.ok
  have := getT_put h3 (s.drop k)
  rwa [h2, List.take_append_drop] at this
 ·
  intro hc
  cases hg : getT s with
  | none => rfl
  | some p =>
   obtain ⟨h1, h2⟩ := getT_back (t := p.1) (r := p.2) hg
   rw [h2] at h
   exact absurd (h.back h1).1 hc
def pNum (most : Nat) (s : List Nat) : Option (Nat × List Nat) :=
 if (getN s).2.2 = 0 ∧ (getN s).1 ≤ most then some ((getN s).1, s.drop (getN s).2.1) else none
theorem pNum_num {most n : Nat} {p : List Nat} (h : Num n p) (hn : n ≤ most) (more : List Nat) : pNum most (p ++ more) = some (n, more) := by
 unfold pNum
 rw [getN_num h more, if_pos ⟨rfl, hn⟩, List.drop_left]
theorem pNum_back {most : Nat} {s t : List Nat} (hs : ∀ c ∈ s, c < 256) {n : Nat} (h : pNum most s = some (n, t)) : n ≤ most ∧ ∃ p, Num n p ∧ s = p ++ t := by
 unfold pNum at h
 split at h
 ·
  rename_i h1
  simp only [Option.some.injEq, Prod.mk.injEq] at h
  obtain ⟨rfl, rfl⟩ := h
  refine ⟨h1.2, s.take (getN s).2.1, (getN_back hs (n := (getN s).1) (k := (getN s).2.1) ?_).2, (List.take_append_drop _ _).symm⟩
  rw [← h1.1]
 ·
  cases h
def pInt (s : List Nat) : Option (Int × List Nat) := if (getI s).2.2 = 0 then some ((getI s).1, s.drop (getI s).2.1) else none
theorem pInt_num {n : Int} {p : List Nat} (h : INum n p) (hn : -9223372036854775808 ≤ n ∧ n ≤ 9223372036854775807) (more : List Nat) : pInt (p ++ more) = some (n, more) := by
 unfold pInt
 rw [getI_num h hn more, if_pos rfl, List.drop_left]
theorem pInt_back {s t : List Nat} (hs : ∀ c ∈ s, c < 256) {n : Int} (h : pInt s = some (n, t)) : (-9223372036854775808 ≤ n ∧ n ≤ 9223372036854775807) ∧ ∃ p, INum n p ∧ s = p ++ t := by
 unfold pInt at h
 split at h
 ·
  rename_i h1
  simp only [Option.some.injEq, Prod.mk.injEq] at h
  obtain ⟨rfl, rfl⟩ := h
  have hb := getI_back hs (n := (getI s).1) (k := (getI s).2.1) (by rw [← h1])
  exact ⟨hb.2.2, s.take (getI s).2.1, hb.2.1, (List.take_append_drop _ _).symm⟩
 ·
  cases h
def ids (n : Nat) (s : List Nat) : List (List Nat) := (List.range n).map fun i => (s.drop (8 * i)).take 8
theorem ids_length (n : Nat) (s : List Nat) : (ids n s).length = n := by simp [ids]
theorem ids_succ (n : Nat) (s : List Nat) : ids (n + 1) s = ids n s ++ [(s.drop (8 * n)).take 8] := by
 unfold ids
 rw [List.range_succ, List.map_append]
 rfl
theorem ids_flat : ∀ (n : Nat) (s : List Nat), 8 * n ≤ s.length → (ids n s).flatten = s.take (8 * n)
 | 0, s, _ => by simp [ids]
 | n + 1, s, h => by
  rw [ids_succ, List.flatten_append, ids_flat n s (by omega), show 8 * (n + 1) = 8 * n + 8 by omega, List.take_add]
  simp
theorem ids_of : ∀ (l : List (List Nat)) (more : List Nat), (∀ p ∈ l, p.length = 8) → ids l.length (l.flatten ++ more) = l := by
 intro l more hl
 have hlen : ∀ k, k ≤ l.length → ((l.take k).flatten).length = 8 * k := by
  intro k hk
  rw [List.length_flatten]
  have : (l.take k).map List.length = List.replicate k 8 := by
   apply List.ext_getElem
   ·
    simp; omega
   ·
    intro i h1 h2
    simp only [List.length_map, List.length_take] at h1
    simp only [List.getElem_map, List.getElem_take, List.getElem_replicate]
    exact hl _ (List.getElem_mem _)
  rw [this, List.sum_replicate_nat]
  omega
 apply List.ext_getElem
 ·
  rw [ids_length]
 ·
  intro i h1 h2
  simp only [ids, List.getElem_map, List.getElem_range]
  have e : l.flatten = (l.take i).flatten ++ (l[i] ++ (l.drop (i + 1)).flatten) := by
   conv => lhs; rw [← List.take_append_drop i l, List.flatten_append, List.drop_eq_getElem_cons h2, List.flatten_cons]
  rw [e, List.append_assoc, ← hlen i (by omega), List.drop_left, List.append_assoc]
  have h8 := hl _ (List.getElem_mem h2)
  rw [← h8, List.take_left]
def pIds (n : Nat) (s : List Nat) : Option (List (List Nat) × List Nat) := if s.length < 8 * n then none else some (ids n s, s.drop (8 * n))
abbrev Nd := List Nat × Int × Int × Int × Int × List (List Nat) × List Nat
def EncN (n : Nd) (f : List Nat) : Prop := ∃ a b c d, Num n.2.2.1.toNat a ∧ INum n.2.2.2.1 b ∧ Num n.2.2.2.2.1.toNat c ∧ Num n.2.2.2.2.2.1.length d ∧ f = putT n.1 ++ (n.2.1.toNat :: (a ++ (b ++ (c ++ (d ++ (n.2.2.2.2.2.1.flatten ++ putT n.2.2.2.2.2.2))))))
def NdB (n : Nd) : Prop := n.1.length ≤ 1024 ∧ (0 ≤ n.2.1 ∧ n.2.1 < 256) ∧ (0 ≤ n.2.2.1 ∧ n.2.2.1 ≤ 511) ∧ (-9223372036854775808 ≤ n.2.2.2.1 ∧ n.2.2.2.1 ≤ 9223372036854775807) ∧ (0 ≤ n.2.2.2.2.1 ∧ n.2.2.2.2.1 ≤ 4096) ∧ n.2.2.2.2.2.1.length ≤ 300 ∧ (∀ p ∈ n.2.2.2.2.2.1, p.length = 8) ∧ n.2.2.2.2.2.2.length ≤ 1024
theorem EncN.unique {n : Nd} {f g : List Nat} (h : EncN n f) (k : EncN n g) : f = g := by
 obtain ⟨a, b, c, d, h1, h2, h3, h4, rfl⟩ := h
 obtain ⟨a', b', c', d', k1, k2, k3, k4, rfl⟩ := k
 rw [h1.unique k1, h2.unique k2, h3.unique k3, h4.unique k4]
noncomputable def pNode (s : List Nat) : Option (Nd × List Nat) :=
 match getT s with
 | none => none
 | some (name, s1) => match s1 with
  | [] => none
  | k :: s2 => match pNum 511 s2 with
   | none => none
   | some (mode, s3) => match pInt s3 with
    | none => none
    | some (time, s4) => match pNum 4096 s4 with
     | none => none
     | some (size, s5) => match pNum 300 s5 with
      | none => none
      | some (cnt, s6) => match pIds cnt s6 with
       | none => none
       | some (parts, s7) => match getT s7 with
        | none => none
        | some (link, s8) => some ((name, (k : Int), (mode : Int), time, (size : Int), parts, link), s8)
theorem pNode_enc {n : Nd} {f : List Nat} (h : EncN n f) (hb : NdB n) (more : List Nat) : pNode (f ++ more) = some (n, more) := by
 obtain ⟨name, k, mode, time, size, parts, link⟩ := n
 obtain ⟨a, b, c, d, h1, h2, h3, h4, rfl⟩ := h
 obtain ⟨b1, b2, b3, b4, b5, b6, b7, b8⟩ := hb
 simp only at h1 h2 h3 h4 b1 b2 b3 b4 b5 b6 b7 b8
 have e : putT name ++ (k.toNat :: (a ++ (b ++ (c ++ (d ++ (parts.flatten ++ putT link)))))) ++ more = putT name ++ (k.toNat :: (a ++ (b ++ (c ++ (d ++ (parts.flatten ++ (putT link ++ more))))))) := by simp
 have hf : parts.flatten.length = 8 * parts.length := by
  have := ids_flat parts.length (parts.flatten ++ [])
  have h2 : (parts.map List.length) = List.replicate parts.length 8 := by
   apply List.ext_getElem
   ·
    simp
   ·
    intro i h1 h2
    simp only [List.getElem_map, List.getElem_replicate]
    exact b7 _ (List.getElem_mem _)
  rw [List.length_flatten, h2, List.sum_replicate_nat]
  omega
 have hi : pIds parts.length (parts.flatten ++ (putT link ++ more)) = some (parts, putT link ++ more) := by
  unfold pIds
  rw [if_neg (by rw [List.length_append]; omega), ids_of parts _ b7, ← hf, List.drop_left]
 unfold pNode
 rw [e, getT_put b1]
 simp only
 rw [pNum_num h1 (by omega)]
 simp only
 rw [pInt_num h2 b4]
 simp only
 rw [pNum_num h3 (by omega)]
 simp only
 rw [pNum_num h4 b6]
 simp only
 rw [hi]
 simp only
 rw [getT_put b8]
 simp only [Option.some.injEq, Prod.mk.injEq, true_and, and_true]
 omega
inductive EncNs : List Nd → List Nat → Prop
 | nil : EncNs [] []
 | snoc {l : List Nd} {r : Nd} {t f : List Nat} : EncNs l t → EncN r f → EncNs (l ++ [r]) (t ++ f)
inductive RdNs : Nat → List Nat → List Nd → List Nat → Prop
 | nil {s : List Nat} : RdNs 0 s [] s
 | snoc {n : Nat} {s u t : List Nat} {l : List Nd} {r : Nd} : RdNs n s l u → pNode u = some (r, t) → RdNs (n + 1) s (l ++ [r]) t
theorem RdNs.unique {n : Nat} {s t : List Nat} {l : List Nd} (h : RdNs n s l t) : ∀ {m : List Nd} {u : List Nat}, RdNs n s m u → l = m ∧ t = u := by
 induction h with
 | nil => intro m u g; cases g; exact ⟨rfl, rfl⟩
 | snoc _ h2 ih =>
  intro m u g
  cases g with
  | snoc g1 g2 =>
   obtain ⟨rfl, rfl⟩ := ih g1
   rw [h2] at g2
   cases g2
   exact ⟨rfl, rfl⟩
theorem RdNs.length {n : Nat} {s t : List Nat} {l : List Nd} (h : RdNs n s l t) : l.length = n := by
 induction h with
 | nil => rfl
 | snoc _ _ ih => rw [List.length_append, ih]; rfl
theorem EncNs.rds {l : List Nd} {f : List Nat} (h : EncNs l f) : (∀ r ∈ l, NdB r) → ∀ more, RdNs l.length (f ++ more) l more := by
 induction h with
 | nil => intro _ more; exact .nil
 | snoc h1 h2 ih =>
  intro hok more
  rw [List.length_append, List.append_assoc]
  exact .snoc (ih (fun r hr => hok r (List.mem_append_left _ hr)) _) (pNode_enc h2 (hok _ (List.mem_append_right _ (List.mem_singleton.2 rfl))) more)
theorem RdNs.part {n : Nat} {s t : List Nat} {l : List Nd} (h : RdNs n s l t) : ∀ k, k < n → ∃ m u r v, RdNs k s m u ∧ pNode u = some (r, v) := by
 induction h with
 | nil => intro k hk; omega
 | @snoc n s u t l r h1 h2 ih =>
  intro k hk
  rcases Nat.lt_or_ge k n with h | h
  ·
   exact ih k h
  ·
   obtain rfl : k = n := by omega
   exact ⟨l, u, r, t, h1, h2⟩
def Tx (l : List Nd) (t : List Nat) : Prop := ∃ a f, Num l.length a ∧ EncNs l f ∧ t = a ++ f
theorem EncNs.unique : ∀ {l : List Nd} {t u : List Nat}, EncNs l t → EncNs l u → t = u := by
 have key : ∀ {m : List Nd} {t : List Nat}, EncNs m t → (m = [] ∧ t = []) ∨ ∃ l r u f, m = l ++ [r] ∧ t = u ++ f ∧ EncNs l u ∧ EncN r f := by
  intro m t h
  cases h with
  | nil => exact .inl ⟨rfl, rfl⟩
  | snoc h1 h2 => exact .inr ⟨_, _, _, _, rfl, rfl, h1, h2⟩
 intro l
 induction hn : l.length generalizing l with
 | zero =>
  intro t u h g
  obtain rfl := List.eq_nil_of_length_eq_zero hn
  rcases key h with ⟨_, rfl⟩ | ⟨x, y, _, _, e, _⟩
  ·
   rcases key g with ⟨_, rfl⟩ | ⟨x, y, _, _, e, _⟩
   ·
    rfl
   ·
    simp at e
  ·
   simp at e
 | succ n ih =>
  intro t u h g
  rcases key h with ⟨rfl, _⟩ | ⟨x, y, a, b, rfl, rfl, h1, h2⟩
  ·
   simp at hn
  ·
   rcases key g with ⟨e, _⟩ | ⟨x', y', a', b', e, rfl, g1, g2⟩
   ·
    simp at e
   ·
    obtain ⟨rfl, e2⟩ := List.append_inj' e rfl
    injection e2 with e2 _
    subst e2
    rw [ih (by simpa using hn) h1 g1, h2.unique g2]
theorem Tx.unique {l : List Nd} {t u : List Nat} (h : Tx l t) (g : Tx l u) : t = u := by
 obtain ⟨a, f, h1, h2, rfl⟩ := h
 obtain ⟨b, k, g1, g2, rfl⟩ := g
 rw [h1.unique g1, h2.unique g2]
def Rd (s : List Nat) (l : List Nd) : Prop := ∃ u, pNum 64 s = some (l.length, u) ∧ RdNs l.length u l []
theorem Tx.rd {l : List Nd} {t : List Nat} (h : Tx l t) (hb : ∀ r ∈ l, NdB r) (hl : l.length ≤ 64) : Rd t l := by
 obtain ⟨a, f, h1, h2, rfl⟩ := h
 have := h2.rds hb []
 rw [List.append_nil] at this
 exact ⟨f, pNum_num h1 hl f, this⟩
theorem Rd.unique {s : List Nat} {l m : List Nd} (h : Rd s l) (g : Rd s m) : l = m := by
 obtain ⟨u, h1, h2⟩ := h
 obtain ⟨v, g1, g2⟩ := g
 rw [h1] at g1
 simp only [Option.some.injEq, Prod.mk.injEq] at g1
 obtain ⟨e, rfl⟩ := g1
 rw [← e] at g2
 exact (h2.unique g2).1
end Plain
end Go.Proofs.YtbfoonfbhebhfaaGreatDoor
