/- Plain law of shards: sums in the field of 256 elements, Cauchy's rows are independent, elimination finds the inverse. -/
import Derived.Test.YtigdpmeeibkifaaDoorFieldPlain
namespace Go.Proofs.YtigdpmeeibkifaaDoor.Plain
def xsum : Nat → (Nat → Nat) → Nat
  | 0, _ => 0
  | n + 1, f => xsum n f ^^^ f n
theorem xsum_congr {n : Nat} {f g : Nat → Nat} (h : ∀ k, k < n → f k = g k) : xsum n f = xsum n g := by
  induction n with
  | zero => rfl
  | succ n ih =>
    rw [xsum, xsum, ih (fun k hk => h k (by omega)), h n (by omega)]
theorem xsum_zero {n : Nat} {f : Nat → Nat} (h : ∀ k, k < n → f k = 0) : xsum n f = 0 := by
  induction n with
  | zero => rfl
  | succ n ih =>
    rw [xsum, ih (fun k hk => h k (by omega)), h n (by omega)]
    rfl
theorem xsum_xor (n : Nat) (f g : Nat → Nat) : xsum n (fun k => f k ^^^ g k) = xsum n f ^^^ xsum n g := by
  induction n with
  | zero => simp [xsum]
  | succ n ih =>
    simp only [xsum, ih]
    ac_rfl
theorem xsum_lt {n : Nat} {f : Nat → Nat} (h : ∀ k, k < n → f k < 256) : xsum n f < 256 := by
  induction n with
  | zero => simp [xsum]
  | succ n ih =>
    rw [xsum]
    exact Nat.xor_lt_two_pow (n := 8) (ih fun k hk => h k (by omega)) (h n (by omega))
theorem fmul_xsum (a n : Nat) (f : Nat → Nat) : fmul a (xsum n f) = xsum n fun k => fmul a (f k) := by
  induction n with
  | zero => exact fmul_zero_right a
  | succ n ih => rw [xsum, xsum, fmul_xor_right, ih]
theorem xsum_one {n j : Nat} (f : Nat → Nat) (hj : j < n) (h : ∀ k, k < n → k ≠ j → f k = 0) : xsum n f = f j := by
  induction n with
  | zero => omega
  | succ n ih =>
    rw [xsum]
    by_cases e : j = n
    · subst e
      rw [xsum_zero fun k hk => h k (by omega) (by omega), Nat.zero_xor]
    · rw [ih (by omega) fun k hk hn => h k (by omega) hn, h n (by omega) (by omega), Nat.xor_zero]
theorem xsum_swap (n m : Nat) (f : Nat → Nat → Nat) : xsum n (fun i => xsum m (f i)) = xsum m fun k => xsum n fun i => f i k := by
  induction n with
  | zero => exact (xsum_zero fun k _ => rfl).symm
  | succ n ih =>
    simp only [xsum, ih]
    rw [← xsum_xor]
/-- sums over a list -/
def lsum (l : List Nat) (f : Nat → Nat) : Nat := l.foldr (fun k s => f k ^^^ s) 0
theorem lsum_cons (k : Nat) (l : List Nat) (f : Nat → Nat) : lsum (k :: l) f = f k ^^^ lsum l f := rfl
theorem lsum_congr {l : List Nat} {f g : Nat → Nat} (h : ∀ k ∈ l, f k = g k) : lsum l f = lsum l g := by
  induction l with
  | nil => rfl
  | cons a l ih => rw [lsum_cons, lsum_cons, h a (by simp), ih fun k hk => h k (by simp [hk])]
theorem lsum_xor (l : List Nat) (f g : Nat → Nat) : lsum l (fun k => f k ^^^ g k) = lsum l f ^^^ lsum l g := by
  induction l with
  | nil => simp [lsum]
  | cons a l ih =>
    simp only [lsum_cons, ih]
    ac_rfl
theorem lsum_zero {l : List Nat} {f : Nat → Nat} (h : ∀ k ∈ l, f k = 0) : lsum l f = 0 := by
  induction l with
  | nil => rfl
  | cons a l ih => rw [lsum_cons, h a (by simp), ih fun k hk => h k (by simp [hk])]; rfl
theorem fmul_lsum (a : Nat) (l : List Nat) (f : Nat → Nat) : fmul a (lsum l f) = lsum l fun k => fmul a (f k) := by
  induction l with
  | nil => exact fmul_zero_right a
  | cons k l ih => rw [lsum_cons, lsum_cons, fmul_xor_right, ih]
theorem lsum_lt {l : List Nat} {f : Nat → Nat} (h : ∀ k ∈ l, f k < 256) : lsum l f < 256 := by
  induction l with
  | nil => simp [lsum]
  | cons a l ih =>
    rw [lsum_cons]
    exact Nat.xor_lt_two_pow (n := 8) (h a (by simp)) (ih fun k hk => h k (by simp [hk]))
/-- the inverse, as the program has it -/
def finv (a : Nat) : Nat := if a = 0 then 0 else fpow a 254
theorem finv_lt (a : Nat) : finv a < 256 := by
  unfold finv
  split
  · decide
  · exact fpow_lt a 254
theorem fmul_finv {a : Nat} (ha : a < 256) (h : a ≠ 0) : fmul a (finv a) = 1 := by
  unfold finv
  rw [if_neg h]
  exact inv_right a ha h
theorem xor_lt {a b : Nat} (ha : a < 256) (hb : b < 256) : a ^^^ b < 256 := Nat.xor_lt_two_pow (n := 8) ha hb
theorem xor_self_eq {a b : Nat} : a ^^^ b = 0 ↔ a = b := by
  constructor
  · intro h
    have : a ^^^ b ^^^ b = 0 ^^^ b := by rw [h]
    rwa [Nat.xor_assoc, Nat.xor_self, Nat.xor_zero, Nat.zero_xor] at this
  · rintro rfl
    exact Nat.xor_self a
theorem xor_cancel {a b c : Nat} (h : a ^^^ b = a ^^^ c) : b = c := by
  have : a ^^^ (a ^^^ b) = a ^^^ (a ^^^ c) := by rw [h]
  rwa [← Nat.xor_assoc, ← Nat.xor_assoc, Nat.xor_self, Nat.zero_xor, Nat.zero_xor] at this
theorem fmul_cancel {a b c : Nat} (ha : a < 256) (hb : b < 256) (hc : c < 256) (h0 : a ≠ 0) (h : fmul a b = fmul a c) : b = c := by
  have : fmul a (b ^^^ c) = 0 := by rw [fmul_xor_right, h, Nat.xor_self]
  rcases fmul_eq_zero a _ ha (xor_lt hb hc) this with e | e
  · exact absurd e h0
  · exact xor_self_eq.1 e
/-- 1/(u) + 1/(v) = (u + v)/(u v) -/
theorem finv_sum {u v : Nat} (hu : u < 256) (hv : v < 256) (u0 : u ≠ 0) (v0 : v ≠ 0) : finv u ^^^ finv v = fmul (u ^^^ v) (fmul (finv u) (finv v)) := by
  have iu := finv_lt u
  have iv := finv_lt v
  have e1 : fmul u (fmul (finv u) (finv v)) = finv v := by rw [← fmul_assoc u _ _ hu iu iv, fmul_finv hu u0, one_fmul _ iv]
  have e2 : fmul v (fmul (finv u) (finv v)) = finv u := by rw [fmul_comm (finv u) (finv v) iu iv, ← fmul_assoc v _ _ hv iv iu, fmul_finv hv v0, one_fmul _ iu]
  rw [fmul_xor_left, e1, e2, Nat.xor_comm]
/-- CAUCHY: as many rows as columns are independent. -/
theorem cauchy : ∀ (ks js : List Nat) (d : Nat → Nat), ks.Nodup → js.Nodup → ks.length ≤ js.length → (∀ k ∈ ks, k < 256) → (∀ j ∈ js, j < 256) → (∀ k ∈ ks, ∀ j ∈ js, j ≠ k) →
    (∀ k ∈ ks, d k < 256) → (∀ j ∈ js, lsum ks (fun k => fmul (d k) (finv (j ^^^ k))) = 0) → ∀ k ∈ ks, d k = 0 := by
  intro ks
  induction ks with
  | nil => intro js d _ _ _ _ _ _ _ _ k hk; cases hk
  | cons k0 ks ih =>
    intro js d hkn hjn hlen hk hj hne hd hsum
    cases js with
    | nil => simp at hlen
    | cons j0 js =>
      have hk0 := hk k0 (by simp)
      have hj0 := hj j0 (by simp)
      have hn0 : ∀ k ∈ k0 :: ks, j0 ^^^ k ≠ 0 := fun k hkm e => hne k hkm j0 (by simp) (xor_self_eq.1 e)
      -- c k = d k / (j0 + k)
      obtain ⟨c, hc⟩ : ∃ c : Nat → Nat, c = fun k => fmul (d k) (finv (j0 ^^^ k)) := ⟨_, rfl⟩
      have hcl : ∀ k ∈ k0 :: ks, c k < 256 := fun k hkm => by rw [hc]; exact fmul_lt _ _ (hd k hkm)
      have hc0 : lsum (k0 :: ks) c = 0 := by rw [hc]; exact hsum j0 (by simp)
      have hdc : ∀ k ∈ k0 :: ks, d k = fmul (c k) (j0 ^^^ k) := by
        intro k hkm
        have hx := xor_lt hj0 (hk k hkm)
        rw [hc]
        show d k = fmul (fmul (d k) (finv (j0 ^^^ k))) (j0 ^^^ k)
        rw [fmul_assoc _ _ _ (hd k hkm) (finv_lt _) hx, fmul_comm (finv (j0 ^^^ k)) _ (finv_lt _) hx, fmul_finv hx (hn0 k hkm), fmul_one]
      -- the other rows: sum c k / (j + k) = 0
      have hrow : ∀ j ∈ js, lsum (k0 :: ks) (fun k => fmul (c k) (finv (j ^^^ k))) = 0 := by
        intro j hjm
        have hjb := hj j (by simp [hjm])
        have hjj : j0 ^^^ j ≠ 0 := fun e => by
          have := xor_self_eq.1 e
          subst this
          exact (List.nodup_cons.1 hjn).1 hjm
        have h1 := hsum j (by simp [hjm])
        have h2 : lsum (k0 :: ks) (fun k => fmul (d k) (finv (j ^^^ k))) = lsum (k0 :: ks) (fun k => c k ^^^ fmul (j0 ^^^ j) (fmul (c k) (finv (j ^^^ k)))) := by
          refine lsum_congr fun k hkm => ?_
          have hkb := hk k hkm
          have hx := xor_lt hj0 hkb
          have hy := xor_lt hjb hkb
          have hy0 : j ^^^ k ≠ 0 := fun e => hne k hkm j (by simp [hjm]) (xor_self_eq.1 e)
          have e : j0 ^^^ k = (j ^^^ k) ^^^ (j0 ^^^ j) := by
            rw [Nat.xor_comm j k, Nat.xor_assoc, Nat.xor_comm j0 j, ← Nat.xor_assoc j j j0, Nat.xor_self, Nat.zero_xor, Nat.xor_comm]
          rw [hdc k hkm, e, fmul_assoc _ _ _ (hcl k hkm) (xor_lt hy (xor_lt hj0 hjb)) (finv_lt _), fmul_xor_left, fmul_finv hy hy0, fmul_xor_right, fmul_one]
          congr 1
          rw [← fmul_assoc _ _ _ (hcl k hkm) (xor_lt hj0 hjb) (finv_lt _), fmul_comm (c k) _ (hcl k hkm) (xor_lt hj0 hjb), fmul_assoc _ _ _ (xor_lt hj0 hjb) (hcl k hkm) (finv_lt _)]
        rw [h2, lsum_xor, hc0, Nat.zero_xor, ← fmul_lsum] at h1
        rcases fmul_eq_zero _ _ (xor_lt hj0 hjb) (lsum_lt fun k hkm => fmul_lt _ _ (hcl k hkm)) h1 with e | e
        · exact absurd e hjj
        · exact e
      -- column k0 goes
      have hk0s : ∀ k ∈ ks, k ≠ k0 := fun k hkm e => (List.nodup_cons.1 hkn).1 (e ▸ hkm)
      have hck0 : c k0 = lsum ks c := xor_self_eq.1 hc0
      have hcs : ∀ k ∈ ks, fmul (c k) (k ^^^ k0) = 0 := by
        refine ih js (fun k => fmul (c k) (k ^^^ k0)) (List.nodup_cons.1 hkn).2 (List.nodup_cons.1 hjn).2 (by simpa using hlen) (fun k h => hk k (by simp [h])) (fun j h => hj j (by simp [h])) (fun k h j h' => hne k (by simp [h]) j (by simp [h']))
          (fun k h => fmul_lt _ _ (hcl k (by simp [h]))) ?_
        intro j hjm
        have hjb := hj j (by simp [hjm])
        have hy0 : j ^^^ k0 ≠ 0 := fun e => hne k0 (by simp) j (by simp [hjm]) (xor_self_eq.1 e)
        have hyb := xor_lt hjb hk0
        have h1 := hrow j hjm
        rw [lsum_cons, hck0] at h1
        rw [fmul_comm _ _ (lsum_lt fun k h => hcl k (by simp [h])) (finv_lt _), fmul_lsum, ← lsum_xor] at h1
        have h2 : lsum ks (fun k => fmul (finv (j ^^^ k0)) (c k) ^^^ fmul (c k) (finv (j ^^^ k))) = fmul (finv (j ^^^ k0)) (lsum ks fun k => fmul (fmul (c k) (k ^^^ k0)) (finv (j ^^^ k))) := by
          rw [fmul_lsum]
          refine lsum_congr fun k hkm => ?_
          have hkb := hk k (by simp [hkm])
          have hck := hcl k (by simp [hkm])
          have hz := xor_lt hjb hkb
          have hz0 : j ^^^ k ≠ 0 := fun e => hne k (by simp [hkm]) j (by simp [hjm]) (xor_self_eq.1 e)
          have e := finv_sum hyb hz hy0 hz0
          have e2 : (j ^^^ k0) ^^^ (j ^^^ k) = k ^^^ k0 := by
            rw [Nat.xor_comm j k0, Nat.xor_assoc, ← Nat.xor_assoc j j k, Nat.xor_self, Nat.zero_xor, Nat.xor_comm]
          have hkk := xor_lt hkb hk0
          rw [fmul_comm _ (c k) (finv_lt _) hck, ← fmul_xor_right, e, e2, fmul_comm (finv (j ^^^ k0)) (finv (j ^^^ k)) (finv_lt _) (finv_lt _), ← fmul_assoc _ _ _ hkk (finv_lt _) (finv_lt _), ← fmul_assoc _ _ _ hck (fmul_lt _ _ hkk) (finv_lt _),
            ← fmul_assoc _ _ _ hck hkk (finv_lt _), fmul_comm _ (finv (j ^^^ k0)) (fmul_lt _ _ (fmul_lt _ _ hck)) (finv_lt _)]
        rw [h2] at h1
        rcases fmul_eq_zero _ _ (finv_lt _) (lsum_lt fun k h => fmul_lt _ _ (fmul_lt _ _ (hcl k (by simp [h])))) h1 with e | e
        · have := fmul_finv hyb hy0
          rw [e, fmul_zero_right] at this
          omega
        · exact e
      have hcz : ∀ k ∈ ks, c k = 0 := by
        intro k hkm
        rcases fmul_eq_zero _ _ (hcl k (by simp [hkm])) (xor_lt (hk k (by simp [hkm])) hk0) (hcs k hkm) with e | e
        · exact e
        · exact absurd (xor_self_eq.1 e) (hk0s k hkm)
      have hcz0 : c k0 = 0 := by rw [hck0]; exact lsum_zero hcz
      intro k hkm
      rw [hdc k hkm]
      rcases List.mem_cons.1 hkm with rfl | h
      · rw [hcz0]; exact fmul_zero_left _
      · rw [hcz k h]; exact fmul_zero_left _
end Go.Proofs.YtigdpmeeibkifaaDoor.Plain
