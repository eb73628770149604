/- The walks of package mix on numbers: Step, inverse, Undo; and the law MixBack. -/
import Derived.Test.YtpfmfigommmjiaaDoorRows
import Derived.Test.YtpfmfigommmjiaaDoorMixPlain
import Derived.Test.YtpfmfigommmjiaaDoorFtB
import Derived.WalkKit
import Derived.WalkSpells
import Derived.WalkLawsBesides
import Derived.Lib.Hide
namespace Go.Proofs.YtpfmfigommmjiaaDoor
open Go.RowKit Plain
theorem m64 : M64 = 18446744073709551616 := by decide
theorem lt64 {a : Nat} (h : a < M64) : a < 18446744073709551616 := m64 ▸ h
theorem wmul (X C : Nat) : IntKind.u64.wrap ((X : Int) * (C : Int)) = ((X * C % M64 : Nat) : Int) := by
  rw [IntKind.wrap_u64, m64, Int.natCast_emod, Int.natCast_mul]; rfl
theorem wmod (X : Nat) : IntKind.u64.wrap (X : Int) = ((X % M64 : Nat) : Int) := by
  rw [IntKind.wrap_u64, m64, Int.natCast_emod]; rfl
theorem wsub (X : Nat) (h : X < M64) : IntKind.u64.wrap (2 - (X : Int)) = (((2 + (M64 - X)) % M64 : Nat) : Int) := by
  rw [m64] at *
  rw [IntKind.wrap_u64]; omega
theorem bxor {x b : Nat} (hx : x < M64) (hb : b < M64) : bits .xor .u64 (x : Int) (b : Int) = ((x ^^^ b : Nat) : Int) := by
  rw [m64] at *; exact bits_xor_u64_nat x b hx hb
theorem bxshift (k : Nat) {x : Nat} (hx : x < M64) : bits .xor .u64 (x : Int) ((x : Int) / (k : Int)) = ((x ^^^ x / k : Nat) : Int) := by
  rw [← Int.natCast_ediv]; exact bxor hx (div_lt64 k hx)
theorem castF : (11400714819323198485 : Int) = ((mixF : Nat) : Int) := by unfold mixF; simp
theorem castS : (13787848793156543929 : Int) = ((mixS : Nat) : Int) := by unfold mixS; simp
theorem cast29 : (536870912 : Int) = ((2 ^ 29 : Nat) : Int) := by simp
theorem cast32 : (4294967296 : Int) = ((2 ^ 32 : Nat) : Int) := by simp
theorem cast58 : (288230376151711744 : Int) = ((2 ^ 58 : Nat) : Int) := by simp
theorem mstep_val (x b : Nat) (hx : x < M64) (hb : b < M64) :
    bits .xor .u64 (IntKind.u64.wrap (bits .xor .u64 (IntKind.u64.wrap (bits .xor .u64 (x : Int) (b : Int) * 11400714819323198485)) (IntKind.u64.wrap (bits .xor .u64 (x : Int) (b : Int) * 11400714819323198485) / 536870912) * 13787848793156543929)) (IntKind.u64.wrap (bits .xor .u64 (IntKind.u64.wrap (bits .xor .u64 (x : Int) (b : Int) * 11400714819323198485)) (IntKind.u64.wrap (bits .xor .u64 (x : Int) (b : Int) * 11400714819323198485) / 536870912) * 13787848793156543929) / 4294967296) = ((mstep x b : Nat) : Int) := by
  rw [bxor hx hb, castF, castS, cast29, cast32, wmul]
  unfold mstep
  generalize hz : (x ^^^ b) * mixF % M64 = z
  have hz' : z < M64 := hz ▸ mod_lt64 _
  rw [bxshift (2 ^ 29) hz', wmul]
  generalize hu : (z ^^^ z / 2 ^ 29) * mixS % M64 = u
  have hu' : u < M64 := hu ▸ mod_lt64 _
  rw [bxshift (2 ^ 32) hu']
  simp only [hu]
set_option maxRecDepth 100000 in
theorem step_any (x b : Nat) (w : World) (hx : x < M64) (hb : b < M64) :
    Calls Tryd.prog 72 #[.int .u64 x, .int .u64 b] w fun e w' => e = .returned (.int .u64 (mstep x b)) ∧ w = w' := by
  go_enter Tryd.func72, Tryd.ntmps72
  go_wp2
  go_ret
  exact ⟨ret_int (mstep_val x b hx hb), rfl⟩
theorem step_int (x b : Int) (w : World) (hx0 : 0 ≤ x) (hx : x < 18446744073709551616) (hb0 : 0 ≤ b) (hb : b < 18446744073709551616) :
    Calls Tryd.prog 72 #[.int .u64 x, .int .u64 b] w fun e w' => e = .returned (.int .u64 (mstep x.toNat b.toNat)) ∧ w = w' := by
  obtain ⟨A, rfl⟩ := Int.eq_ofNat_of_zero_le hx0
  obtain ⟨B, rfl⟩ := Int.eq_ofNat_of_zero_le hb0
  exact step_any A B w (by rw [m64]; omega) (by rw [m64]; omega)
theorem newt_val (a x : Nat) : IntKind.u64.wrap ((x : Int) * IntKind.u64.wrap (2 - IntKind.u64.wrap ((a : Int) * (x : Int)))) = ((newt a x : Nat) : Int) := by
  rw [wmul, wsub _ (mod_lt64 _), wmul]
  rfl
theorem newtN_step (a n y : Nat) (h : 0 < n) : newtN a n y = newtN a (n - 1) (newt a y) := by
  cases n with
  | zero => omega
  | succ n => rfl
theorem mundo_val (y b : Nat) (hy : y < M64) (hb : b < M64) :
    bits .xor .u64 (IntKind.u64.wrap (bits .xor .u64 (bits .xor .u64 (IntKind.u64.wrap (bits .xor .u64 (y : Int) ((y : Int) / 4294967296) * ((minv mixS : Nat) : Int))) (IntKind.u64.wrap (bits .xor .u64 (y : Int) ((y : Int) / 4294967296) * ((minv mixS : Nat) : Int)) / 536870912)) (IntKind.u64.wrap (bits .xor .u64 (y : Int) ((y : Int) / 4294967296) * ((minv mixS : Nat) : Int)) / 288230376151711744) * ((minv mixF : Nat) : Int))) (b : Int) = ((mundo y b : Nat) : Int) := by
  rw [cast29, cast32, cast58, bxshift (2 ^ 32) hy, wmul]
  unfold mundo
  generalize hz : (y ^^^ y / 2 ^ 32) * minv mixS % M64 = z
  have hz' : z < M64 := hz ▸ mod_lt64 _
  rw [bxshift (2 ^ 29) hz', ← Int.natCast_ediv, bxor (xor_lt64 hz' (div_lt64 _ hz')) (div_lt64 _ hz'), wmul, bxor (mod_lt64 _) hb]
theorem step12 : mstep 1 2 ≠ 0 := by decide +kernel
theorem step12_ne : (((mstep 1 2 : Nat) : Int) != 0) = true := by
  have h := step12
  generalize mstep 1 2 = n at h
  simp; omega
end Go.Proofs.YtpfmfigommmjiaaDoor
