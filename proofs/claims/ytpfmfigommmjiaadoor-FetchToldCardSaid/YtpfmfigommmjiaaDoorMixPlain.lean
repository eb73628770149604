/- Plain facts on the hash step of package mix: it is invertible in its state and in its block. -/
import Derived.Test.YtpfmfigommmjiaaDoorBasis
namespace Go.Proofs.YtpfmfigommmjiaaDoor.Plain
def M64 : Nat := 18446744073709551616
def mixF : Nat := 11400714819323198485
def mixS : Nat := 13787848793156543929
/-- one step of the hash -/
def mstep (x b : Nat) : Nat :=
  let z := (x ^^^ b) * mixF % M64
  let u := (z ^^^ z / 2 ^ 29) * mixS % M64
  u ^^^ u / 2 ^ 32
/-- NEWTON: one round of the inverse of an odd number -/
def newt (a x : Nat) : Nat := x * ((2 + (M64 - a * x % M64)) % M64) % M64
def newtN (a : Nat) : Nat → Nat → Nat
  | 0, x => x
  | n + 1, x => newtN a n (newt a x)
def minv (a : Nat) : Nat := newtN a 6 a
def mundo (y b : Nat) : Nat :=
  let z := (y ^^^ y / 2 ^ 32) * minv mixS % M64
  let v := z ^^^ z / 2 ^ 29 ^^^ z / 2 ^ 58
  (v * minv mixF % M64) ^^^ b
theorem invS : mixS * minv mixS % M64 = 1 := by decide +kernel
theorem invF : mixF * minv mixF % M64 = 1 := by decide +kernel
theorem M64_eq : M64 = 2 ^ 64 := by decide
theorem xor_lt64 {a b : Nat} (ha : a < M64) (hb : b < M64) : a ^^^ b < M64 := by
  rw [M64_eq] at *
  exact Nat.xor_lt_two_pow ha hb
theorem mod_lt64 (a : Nat) : a % M64 < M64 := Nat.mod_lt _ (by decide)
theorem div_lt64 {a : Nat} (k : Nat) (h : a < M64) : a / k < M64 := Nat.lt_of_le_of_lt (Nat.div_le_self _ _) h
theorem mul_inv {u a i : Nat} (hu : u < M64) (h : a * i % M64 = 1) : (u * a % M64) * i % M64 = u := by
  rw [Nat.mod_mul_mod, Nat.mul_assoc, ← Nat.mul_mod_mod, h, Nat.mul_one, Nat.mod_eq_of_lt hu]
theorem xor_div (a b k : Nat) : (a ^^^ b) / 2 ^ k = a / 2 ^ k ^^^ b / 2 ^ k := by
  simp only [← Nat.shiftRight_eq_div_pow, Nat.shiftRight_xor_distrib]
theorem div_div_pow (a j k : Nat) : a / 2 ^ j / 2 ^ k = a / 2 ^ (j + k) := by rw [Nat.div_div_eq_div_mul, Nat.pow_add]
theorem div_big (a k : Nat) (h : a < M64) (hk : 64 ≤ k) : a / 2 ^ k = 0 := by
  apply Nat.div_eq_of_lt
  rw [M64_eq] at h
  exact Nat.lt_of_lt_of_le h (Nat.pow_le_pow_right (by decide) hk)
theorem back32 (u : Nat) (h : u < M64) : (u ^^^ u / 2 ^ 32) ^^^ (u ^^^ u / 2 ^ 32) / 2 ^ 32 = u := by
  rw [xor_div, div_div_pow, div_big u (32 + 32) h (by decide), Nat.xor_zero, Nat.xor_assoc, Nat.xor_self, Nat.xor_zero]
theorem back29 (z : Nat) (h : z < M64) : (z ^^^ z / 2 ^ 29) ^^^ (z ^^^ z / 2 ^ 29) / 2 ^ 29 ^^^ (z ^^^ z / 2 ^ 29) / 2 ^ 58 = z := by
  rw [xor_div, xor_div, div_div_pow, div_div_pow, div_big z (29 + 58) h (by decide), Nat.xor_zero]
  have : (z ^^^ z / 2 ^ 29) ^^^ (z / 2 ^ 29 ^^^ z / 2 ^ (29 + 29)) ^^^ z / 2 ^ 58 = z ^^^ ((z / 2 ^ 29 ^^^ z / 2 ^ 29) ^^^ (z / 2 ^ (29 + 29) ^^^ z / 2 ^ 58)) := by ac_rfl
  rw [this, Nat.xor_self, show 29 + 29 = 58 from rfl, Nat.xor_self]
  simp
theorem fore29 (z : Nat) (h : z < M64) : (z ^^^ z / 2 ^ 29 ^^^ z / 2 ^ 58) ^^^ (z ^^^ z / 2 ^ 29 ^^^ z / 2 ^ 58) / 2 ^ 29 = z := by
  rw [xor_div, xor_div, div_div_pow, div_div_pow, div_big z (58 + 29) h (by decide), Nat.xor_zero]
  have : (z ^^^ z / 2 ^ 29 ^^^ z / 2 ^ 58) ^^^ (z / 2 ^ 29 ^^^ z / 2 ^ (29 + 29)) = z ^^^ ((z / 2 ^ 29 ^^^ z / 2 ^ 29) ^^^ (z / 2 ^ 58 ^^^ z / 2 ^ (29 + 29))) := by ac_rfl
  rw [this, Nat.xor_self, show 29 + 29 = 58 from rfl, Nat.xor_self]
  simp
theorem mundo_step (x b : Nat) (hx : x < M64) (hb : b < M64) : mundo (mstep x b) b = x := by
  have hxb := xor_lt64 hx hb
  unfold mundo mstep
  simp only
  generalize hz : (x ^^^ b) * mixF % M64 = z
  have hz' : z < M64 := hz ▸ mod_lt64 _
  have hw : z ^^^ z / 2 ^ 29 < M64 := xor_lt64 hz' (div_lt64 _ hz')
  generalize hu : (z ^^^ z / 2 ^ 29) * mixS % M64 = u
  have hu' : u < M64 := hu ▸ mod_lt64 _
  rw [back32 u hu', ← hu, mul_inv hw invS, back29 z hz', ← hz, mul_inv hxb invF, Nat.xor_assoc, Nat.xor_self, Nat.xor_zero]
theorem invS' : minv mixS * mixS % M64 = 1 := by rw [Nat.mul_comm]; exact invS
theorem invF' : minv mixF * mixF % M64 = 1 := by rw [Nat.mul_comm]; exact invF
theorem mstep_undo (y b : Nat) (hy : y < M64) : mstep (mundo y b) b = y := by
  have hy2 := xor_lt64 hy (div_lt64 (2 ^ 32) hy)
  unfold mundo mstep
  simp only
  generalize hz : (y ^^^ y / 2 ^ 32) * minv mixS % M64 = z
  have hz' : z < M64 := hz ▸ mod_lt64 _
  have hv : z ^^^ z / 2 ^ 29 ^^^ z / 2 ^ 58 < M64 := xor_lt64 (xor_lt64 hz' (div_lt64 _ hz')) (div_lt64 _ hz')
  have h1 : ((z ^^^ z / 2 ^ 29 ^^^ z / 2 ^ 58) * minv mixF % M64 ^^^ b) ^^^ b = (z ^^^ z / 2 ^ 29 ^^^ z / 2 ^ 58) * minv mixF % M64 := by
    rw [Nat.xor_assoc, Nat.xor_self, Nat.xor_zero]
  rw [h1, mul_inv hv invF', fore29 z hz', ← hz, mul_inv hy2 invS', back32 y hy]
theorem mstep_lt (x b : Nat) : mstep x b < M64 := by
  unfold mstep
  simp only
  exact xor_lt64 (mod_lt64 _) (div_lt64 _ (mod_lt64 _))
theorem mundo_lt (y b : Nat) (hb : b < M64) : mundo y b < M64 := xor_lt64 (mod_lt64 _) hb
theorem minv_lt (a : Nat) : minv a < M64 := mod_lt64 _
/-- for one block the states correspond -/
theorem mstep_inj_state {x y b : Nat} (hx : x < M64) (hy : y < M64) (hb : b < M64) (h : mstep x b = mstep y b) : x = y := by
  rw [← mundo_step x b hx hb, h, mundo_step y b hy hb]
theorem mstep_comm (x b : Nat) : mstep x b = mstep b x := by unfold mstep; rw [Nat.xor_comm x b]
theorem mstep_inj_block {x b c : Nat} (hx : x < M64) (hb : b < M64) (hc : c < M64) (h : mstep x b = mstep x c) : b = c := by
  rw [mstep_comm x b, mstep_comm x c] at h
  exact mstep_inj_state hb hc hx h
end Go.Proofs.YtpfmfigommmjiaaDoor.Plain
