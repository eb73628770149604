/- Joined: MixPlain, MixW, MixSum, MixSumW. -/
import Derived.Test.YtpfmfigommmjiaaDoorToAG
import Derived.Test.YtpfmfigommmjiaaDoorRows
import Derived.Test.YtpfmfigommmjiaaDoorToAA
import Derived.WalkKit
import Derived.WalkSpells
import Derived.WalkLawsBesides
import Derived.Lib.Hide
import Derived.Test.YtpfmfigommmjiaaDoorToAB
import Derived.Lib.BufferWrite
import Derived.Lib.SlBuf
import Derived.BigQuiet
import Derived.Deep.QuietTactic
import Derived.Laws.CopyOwn
namespace Go.Proofs.YtpfmfigommmjiaaDoor.Plain
def M64 : Nat := 18446744073709551616
def mixF : Nat := 11400714819323198485
def mixS : Nat := 13787848793156543929
/-- one step of the hash -/
def mstep (x b : Nat) : Nat :=
  let z := (x ^^^ b) * mixF % M64
  let u := (z ^^^ z / 2 ^ 29) * mixS % M64
  u ^^^ u / 2 ^ 32
/-- NEWTON: one round of the inverse of an odd number -/
def newt (a x : Nat) : Nat := x * ((2 + (M64 - a * x % M64)) % M64) % M64
def newtN (a : Nat) : Nat → Nat → Nat
  | 0, x => x
  | n + 1, x => newtN a n (newt a x)
def minv (a : Nat) : Nat := newtN a 6 a
def mundo (y b : Nat) : Nat :=
  let z := (y ^^^ y / 2 ^ 32) * minv mixS % M64
  let v := z ^^^ z / 2 ^ 29 ^^^ z / 2 ^ 58
  (v * minv mixF % M64) ^^^ b
theorem invS : mixS * minv mixS % M64 = 1 := by decide +kernel
theorem invF : mixF * minv mixF % M64 = 1 := by decide +kernel
theorem M64_eq : M64 = 2 ^ 64 := by decide
theorem xor_lt64 {a b : Nat} (ha : a < M64) (hb : b < M64) : a ^^^ b < M64 := by
  rw [M64_eq] at *
  exact Nat.xor_lt_two_pow ha hb
theorem mod_lt64 (a : Nat) : a % M64 < M64 := Nat.mod_lt _ (by decide)
theorem div_lt64 {a : Nat} (k : Nat) (h : a < M64) : a / k < M64 := Nat.lt_of_le_of_lt (Nat.div_le_self _ _) h
theorem mul_inv {u a i : Nat} (hu : u < M64) (h : a * i % M64 = 1) : (u * a % M64) * i % M64 = u := by
  rw [Nat.mod_mul_mod, Nat.mul_assoc, ← Nat.mul_mod_mod, h, Nat.mul_one, Nat.mod_eq_of_lt hu]
theorem xor_div (a b k : Nat) : (a ^^^ b) / 2 ^ k = a / 2 ^ k ^^^ b / 2 ^ k := by
  simp only [← Nat.shiftRight_eq_div_pow, Nat.shiftRight_xor_distrib]
theorem div_div_pow (a j k : Nat) : a / 2 ^ j / 2 ^ k = a / 2 ^ (j + k) := by rw [Nat.div_div_eq_div_mul, Nat.pow_add]
theorem div_big (a k : Nat) (h : a < M64) (hk : 64 ≤ k) : a / 2 ^ k = 0 := by
  apply Nat.div_eq_of_lt
  rw [M64_eq] at h
  exact Nat.lt_of_lt_of_le h (Nat.pow_le_pow_right (by decide) hk)
theorem back32 (u : Nat) (h : u < M64) : (u ^^^ u / 2 ^ 32) ^^^ (u ^^^ u / 2 ^ 32) / 2 ^ 32 = u := by
  rw [xor_div, div_div_pow, div_big u (32 + 32) h (by decide), Nat.xor_zero, Nat.xor_assoc, Nat.xor_self, Nat.xor_zero]
theorem back29 (z : Nat) (h : z < M64) : (z ^^^ z / 2 ^ 29) ^^^ (z ^^^ z / 2 ^ 29) / 2 ^ 29 ^^^ (z ^^^ z / 2 ^ 29) / 2 ^ 58 = z := by
  rw [xor_div, xor_div, div_div_pow, div_div_pow, div_big z (29 + 58) h (by decide), Nat.xor_zero]
  have : (z ^^^ z / 2 ^ 29) ^^^ (z / 2 ^ 29 ^^^ z / 2 ^ (29 + 29)) ^^^ z / 2 ^ 58 = z ^^^ ((z / 2 ^ 29 ^^^ z / 2 ^ 29) ^^^ (z / 2 ^ (29 + 29) ^^^ z / 2 ^ 58)) := by ac_rfl
  rw [this, Nat.xor_self, show 29 + 29 = 58 from rfl, Nat.xor_self]
  simp
theorem fore29 (z : Nat) (h : z < M64) : (z ^^^ z / 2 ^ 29 ^^^ z / 2 ^ 58) ^^^ (z ^^^ z / 2 ^ 29 ^^^ z / 2 ^ 58) / 2 ^ 29 = z := by
  rw [xor_div, xor_div, div_div_pow, div_div_pow, div_big z (58 + 29) h (by decide), Nat.xor_zero]
  have : (z ^^^ z / 2 ^ 29 ^^^ z / 2 ^ 58) ^^^ (z / 2 ^ 29 ^^^ z / 2 ^ (29 + 29)) = z ^^^ ((z / 2 ^ 29 ^^^ z / 2 ^ 29) ^^^ (z / 2 ^ 58 ^^^ z / 2 ^ (29 + 29))) := by ac_rfl
  rw [this, Nat.xor_self, show 29 + 29 = 58 from rfl, Nat.xor_self]
  simp
theorem mundo_step (x b : Nat) (hx : x < M64) (hb : b < M64) : mundo (mstep x b) b = x := by
  have hxb := xor_lt64 hx hb
  unfold mundo mstep
  simp only
  generalize hz : (x ^^^ b) * mixF % M64 = z
  have hz' : z < M64 := hz ▸ mod_lt64 _
  have hw : z ^^^ z / 2 ^ 29 < M64 := xor_lt64 hz' (div_lt64 _ hz')
  generalize hu : (z ^^^ z / 2 ^ 29) * mixS % M64 = u
  have hu' : u < M64 := hu ▸ mod_lt64 _
  rw [back32 u hu', ← hu, mul_inv hw invS, back29 z hz', ← hz, mul_inv hxb invF, Nat.xor_assoc, Nat.xor_self, Nat.xor_zero]
theorem invS' : minv mixS * mixS % M64 = 1 := by rw [Nat.mul_comm]; exact invS
theorem invF' : minv mixF * mixF % M64 = 1 := by rw [Nat.mul_comm]; exact invF
theorem mstep_undo (y b : Nat) (hy : y < M64) : mstep (mundo y b) b = y := by
  have hy2 := xor_lt64 hy (div_lt64 (2 ^ 32) hy)
  unfold mundo mstep
  simp only
  generalize hz : (y ^^^ y / 2 ^ 32) * minv mixS % M64 = z
  have hz' : z < M64 := hz ▸ mod_lt64 _
  have hv : z ^^^ z / 2 ^ 29 ^^^ z / 2 ^ 58 < M64 := xor_lt64 (xor_lt64 hz' (div_lt64 _ hz')) (div_lt64 _ hz')
  have h1 : ((z ^^^ z / 2 ^ 29 ^^^ z / 2 ^ 58) * minv mixF % M64 ^^^ b) ^^^ b = (z ^^^ z / 2 ^ 29 ^^^ z / 2 ^ 58) * minv mixF % M64 := by
    rw [Nat.xor_assoc, Nat.xor_self, Nat.xor_zero]
  rw [h1, mul_inv hv invF', fore29 z hz', ← hz, mul_inv hy2 invS', back32 y hy]
theorem mstep_lt (x b : Nat) : mstep x b < M64 := by
  unfold mstep
  simp only
  exact xor_lt64 (mod_lt64 _) (div_lt64 _ (mod_lt64 _))
theorem mundo_lt (y b : Nat) (hb : b < M64) : mundo y b < M64 := xor_lt64 (mod_lt64 _) hb
theorem minv_lt (a : Nat) : minv a < M64 := mod_lt64 _
/-- for one block the states correspond -/
theorem mstep_inj_state {x y b : Nat} (hx : x < M64) (hy : y < M64) (hb : b < M64) (h : mstep x b = mstep y b) : x = y := by
  rw [← mundo_step x b hx hb, h, mundo_step y b hy hb]
theorem mstep_comm (x b : Nat) : mstep x b = mstep b x := by unfold mstep; rw [Nat.xor_comm x b]
theorem mstep_inj_block {x b c : Nat} (hx : x < M64) (hb : b < M64) (hc : c < M64) (h : mstep x b = mstep x c) : b = c := by
  rw [mstep_comm x b, mstep_comm x c] at h
  exact mstep_inj_state hb hc hx h
end Go.Proofs.YtpfmfigommmjiaaDoor.Plain
namespace Go.Proofs.YtpfmfigommmjiaaDoor
open Go.RowKit Plain
theorem m64 : M64 = 18446744073709551616 := by decide
theorem lt64 {a : Nat} (h : a < M64) : a < 18446744073709551616 := m64 ▸ h
theorem wmul (X C : Nat) : IntKind.u64.wrap ((X : Int) * (C : Int)) = ((X * C % M64 : Nat) : Int) := by
  rw [IntKind.wrap_u64, m64, Int.natCast_emod, Int.natCast_mul]; rfl
theorem wmod (X : Nat) : IntKind.u64.wrap (X : Int) = ((X % M64 : Nat) : Int) := by
  rw [IntKind.wrap_u64, m64, Int.natCast_emod]; rfl
theorem wsub (X : Nat) (h : X < M64) : IntKind.u64.wrap (2 - (X : Int)) = (((2 + (M64 - X)) % M64 : Nat) : Int) := by
  rw [m64] at *
  rw [IntKind.wrap_u64]; omega
theorem bxor {x b : Nat} (hx : x < M64) (hb : b < M64) : bits .xor .u64 (x : Int) (b : Int) = ((x ^^^ b : Nat) : Int) := by
  rw [m64] at *; exact bits_xor_u64_nat x b hx hb
theorem bxshift (k : Nat) {x : Nat} (hx : x < M64) : bits .xor .u64 (x : Int) ((x : Int) / (k : Int)) = ((x ^^^ x / k : Nat) : Int) := by
  rw [← Int.natCast_ediv]; exact bxor hx (div_lt64 k hx)
theorem castF : (11400714819323198485 : Int) = ((mixF : Nat) : Int) := by unfold mixF; simp
theorem castS : (13787848793156543929 : Int) = ((mixS : Nat) : Int) := by unfold mixS; simp
theorem cast29 : (536870912 : Int) = ((2 ^ 29 : Nat) : Int) := by simp
theorem cast32 : (4294967296 : Int) = ((2 ^ 32 : Nat) : Int) := by simp
theorem cast58 : (288230376151711744 : Int) = ((2 ^ 58 : Nat) : Int) := by simp
theorem mstep_val (x b : Nat) (hx : x < M64) (hb : b < M64) :
    bits .xor .u64 (IntKind.u64.wrap (bits .xor .u64 (IntKind.u64.wrap (bits .xor .u64 (x : Int) (b : Int) * 11400714819323198485)) (IntKind.u64.wrap (bits .xor .u64 (x : Int) (b : Int) * 11400714819323198485) / 536870912) * 13787848793156543929)) (IntKind.u64.wrap (bits .xor .u64 (IntKind.u64.wrap (bits .xor .u64 (x : Int) (b : Int) * 11400714819323198485)) (IntKind.u64.wrap (bits .xor .u64 (x : Int) (b : Int) * 11400714819323198485) / 536870912) * 13787848793156543929) / 4294967296) = ((mstep x b : Nat) : Int) := by
  rw [bxor hx hb, castF, castS, cast29, cast32, wmul]
  unfold mstep
  generalize hz : (x ^^^ b) * mixF % M64 = z
  have hz' : z < M64 := hz ▸ mod_lt64 _
  rw [bxshift (2 ^ 29) hz', wmul]
  generalize hu : (z ^^^ z / 2 ^ 29) * mixS % M64 = u
  have hu' : u < M64 := hu ▸ mod_lt64 _
  rw [bxshift (2 ^ 32) hu']
  simp only [hu]
set_option maxRecDepth 100000 in
theorem step_any (x b : Nat) (w : World) (hx : x < M64) (hb : b < M64) :
    Calls Tryd.prog 72 #[.int .u64 x, .int .u64 b] w fun e w' => e = .returned (.int .u64 (mstep x b)) ∧ w = w' := by
  go_enter Tryd.func72, Tryd.ntmps72
  go_wp2
  go_ret
  exact ⟨ret_int (mstep_val x b hx hb), rfl⟩
theorem step_int (x b : Int) (w : World) (hx0 : 0 ≤ x) (hx : x < 18446744073709551616) (hb0 : 0 ≤ b) (hb : b < 18446744073709551616) :
    Calls Tryd.prog 72 #[.int .u64 x, .int .u64 b] w fun e w' => e = .returned (.int .u64 (mstep x.toNat b.toNat)) ∧ w = w' := by
  obtain ⟨A, rfl⟩ := Int.eq_ofNat_of_zero_le hx0
  obtain ⟨B, rfl⟩ := Int.eq_ofNat_of_zero_le hb0
  exact step_any A B w (by rw [m64]; omega) (by rw [m64]; omega)
theorem newt_val (a x : Nat) : IntKind.u64.wrap ((x : Int) * IntKind.u64.wrap (2 - IntKind.u64.wrap ((a : Int) * (x : Int)))) = ((newt a x : Nat) : Int) := by
  rw [wmul, wsub _ (mod_lt64 _), wmul]
  rfl
theorem newtN_step (a n y : Nat) (h : 0 < n) : newtN a n y = newtN a (n - 1) (newt a y) := by
  cases n with
  | zero => omega
  | succ n => rfl
theorem mundo_val (y b : Nat) (hy : y < M64) (hb : b < M64) :
    bits .xor .u64 (IntKind.u64.wrap (bits .xor .u64 (bits .xor .u64 (IntKind.u64.wrap (bits .xor .u64 (y : Int) ((y : Int) / 4294967296) * ((minv mixS : Nat) : Int))) (IntKind.u64.wrap (bits .xor .u64 (y : Int) ((y : Int) / 4294967296) * ((minv mixS : Nat) : Int)) / 536870912)) (IntKind.u64.wrap (bits .xor .u64 (y : Int) ((y : Int) / 4294967296) * ((minv mixS : Nat) : Int)) / 288230376151711744) * ((minv mixF : Nat) : Int))) (b : Int) = ((mundo y b : Nat) : Int) := by
  rw [cast29, cast32, cast58, bxshift (2 ^ 32) hy, wmul]
  unfold mundo
  generalize hz : (y ^^^ y / 2 ^ 32) * minv mixS % M64 = z
  have hz' : z < M64 := hz ▸ mod_lt64 _
  rw [bxshift (2 ^ 29) hz', ← Int.natCast_ediv, bxor (xor_lt64 hz' (div_lt64 _ hz')) (div_lt64 _ hz'), wmul, bxor (mod_lt64 _) hb]
theorem step12 : mstep 1 2 ≠ 0 := by decide +kernel
theorem step12_ne : (((mstep 1 2 : Nat) : Int) != 0) = true := by
  have h := step12
  generalize mstep 1 2 = n at h
  simp; omega
end Go.Proofs.YtpfmfigommmjiaaDoor
namespace Go.Proofs.YtpfmfigommmjiaaDoor
open Go.RowKit Plain
namespace Plain
/-- the first eight bytes, with zeros behind -/
def pad8 (l : List Nat) : List Nat := l.take 8 ++ List.replicate (8 - l.length) 0
theorem pad8_length (l : List Nat) : (pad8 l).length = 8 := by
  simp only [pad8, List.length_append, List.length_take, List.length_replicate]; omega
theorem pad8_lt (l : List Nat) (h : ∀ c ∈ l, c < 256) : ∀ c ∈ pad8 l, c < 256 := by
  intro c hc
  rcases List.mem_append.1 hc with h1 | h1
  · exact h c (List.mem_of_mem_take h1)
  · rw [(List.mem_replicate.1 h1).2]; decide
def le64 (a0 a1 a2 a3 a4 a5 a6 a7 : Nat) : Nat := a0 + a1 * 256 + a2 * 65536 + a3 * 16777216 + a4 * 4294967296 + a5 * 1099511627776 + a6 * 281474976710656 + a7 * 72057594037927936
def leL (l : List Nat) : Nat := le64 (l.getD 0 0) (l.getD 1 0) (l.getD 2 0) (l.getD 3 0) (l.getD 4 0) (l.getD 5 0) (l.getD 6 0) (l.getD 7 0)
end Plain
theorem or_add' (x y i : Nat) (hx : x < 2 ^ i) : x ||| (y * 2 ^ i) = x + y * 2 ^ i := by
  have h := Nat.two_pow_add_eq_or_of_lt hx y
  rw [Nat.or_comm, Nat.mul_comm y, ← h, Nat.add_comm]
theorem le64_lt (a0 a1 a2 a3 a4 a5 a6 a7 : Nat) (l0 : a0 < 256) (l1 : a1 < 256) (l2 : a2 < 256) (l3 : a3 < 256) (l4 : a4 < 256) (l5 : a5 < 256) (l6 : a6 < 256) (l7 : a7 < 256) : le64 a0 a1 a2 a3 a4 a5 a6 a7 < 18446744073709551616 := by
  unfold le64; omega
theorem take8_cells (s : ByteArray) : List.take (min s.size 8) (List.map (fun b : UInt8 => Value.int IntKind.u8 (b.toNat : Int)) s.data.toList) = ((strN s).take 8).map bV := by
  have hl : s.data.toList.length = s.size := by rw [Array.length_toList]; rfl
  rw [← List.take_take, List.take_of_length_le (by rw [List.length_take, List.length_map, hl]; omega)]
  simp only [strN, List.map_take, List.map_map]
  rfl
theorem pad8_cells (s : ByteArray) : (((List.replicate 8 0).map bV).toArray.toList.take (0 + 0) ++ ((strN s).take 8).map bV ++ ((List.replicate 8 0).map bV).toArray.toList.drop (0 + 0 + min s.size 8)).toArray = ((pad8 (strN s)).map bV).toArray := by
  congr 1
  simp only [pad8, Nat.add_zero, List.take_zero, List.nil_append, List.map_append, Nat.zero_add, List.map_replicate, List.drop_replicate, strN_length]
  congr 2
  omega
theorem run_copy8 {P : Program} (w : World) (dT sT ty elem : TypeId) (g : Nat) (s : ByteArray) (t : TypeId)
    (hu : P.underlying dT = some (.slice elem)) (hs : (P.info? elem).map (·.size) = some 1) (hg : w.heap[g]? = some (.cells ((List.replicate 8 0).map bV).toArray t (0, 0))) :
    (Builtin.copy_ #[dT, sT] ty #[.slice (some ⟨g, 0, none⟩) 8 8, .string s]).run P w = .ok (goInt ((min s.size 8 : Nat) : Int)) (w.setRow g ((pad8 (strN s)).map bV).toArray) := by
  have hlen : (((strN s).take 8).map bV).length = min s.size 8 := by rw [List.length_map, List.length_take, strN_length]; omega
  have hst := run_storeCells_at P g 0 t (((strN s).take 8).map bV) 0 _ w hg (by rw [hlen]; simp; omega) (by
    intro v hv
    simp only [List.mem_map] at hv
    obtain ⟨b, _, rfl⟩ := hv
    rfl)
  rw [hlen, pad8_cells, ← take8_cells] at hst
  generalize hm : ((min s.size 8 : Nat) : Int) = m
  have hm2 : ((s.size.min 8 : Nat) : Int) = m := hm
  cases hq : P.info? elem with
  | none => simp [hq] at hs
  | some i =>
    simp [Builtin.copy_, run_underlying hu, Builtin.lenOf, Builtin.firstCells, sizeOf, typeInfo, hq]
    rw [hm2, show s.size.min 8 = min s.size 8 from rfl, hst]
    rfl
theorem le64_val (a0 a1 a2 a3 a4 a5 a6 a7 : Nat) (l0 : a0 < 256) (l1 : a1 < 256) (l2 : a2 < 256) (l3 : a3 < 256) (l4 : a4 < 256) (l5 : a5 < 256) (l6 : a6 < 256) (l7 : a7 < 256) :
    bits .or .u64 (bits .or .u64 (bits .or .u64 (bits .or .u64 (bits .or .u64 (bits .or .u64 (bits .or .u64 (a0 : Int) ((a1 : Int) * 256)) ((a2 : Int) * 65536)) ((a3 : Int) * 16777216)) ((a4 : Int) * 4294967296)) ((a5 : Int) * 1099511627776)) ((a6 : Int) * 281474976710656)) ((a7 : Int) * 72057594037927936) = ((le64 a0 a1 a2 a3 a4 a5 a6 a7 : Nat) : Int) := by
  have e1 : ((a1 : Int) * 256) = ((a1 * 2 ^ 8 : Nat) : Int) := by simp
  have e2 : ((a2 : Int) * 65536) = ((a2 * 2 ^ 16 : Nat) : Int) := by simp
  have e3 : ((a3 : Int) * 16777216) = ((a3 * 2 ^ 24 : Nat) : Int) := by simp
  have e4 : ((a4 : Int) * 4294967296) = ((a4 * 2 ^ 32 : Nat) : Int) := by simp
  have e5 : ((a5 : Int) * 1099511627776) = ((a5 * 2 ^ 40 : Nat) : Int) := by simp
  have e6 : ((a6 : Int) * 281474976710656) = ((a6 * 2 ^ 48 : Nat) : Int) := by simp
  have e7 : ((a7 : Int) * 72057594037927936) = ((a7 * 2 ^ 56 : Nat) : Int) := by simp
  rw [e1, e2, e3, e4, e5, e6, e7]
  rw [bits_or_u64_nat _ _ (by omega) (by omega), or_add' _ _ 8 (by omega), bits_or_u64_nat _ _ (by omega) (by omega), or_add' _ _ 16 (by omega), bits_or_u64_nat _ _ (by omega) (by omega), or_add' _ _ 24 (by omega), bits_or_u64_nat _ _ (by omega) (by omega), or_add' _ _ 32 (by omega),
    bits_or_u64_nat _ _ (by omega) (by omega), or_add' _ _ 40 (by omega), bits_or_u64_nat _ _ (by omega) (by omega), or_add' _ _ 48 (by omega), bits_or_u64_nat _ _ (by omega) (by omega), or_add' _ _ 56 (by omega)]
  rfl
set_option maxRecDepth 100000 in
theorem le64_any (b off cap a0 a1 a2 a3 a4 a5 a6 a7 : Nat) (w : World) (h0 : w.cell? ⟨b, off, none⟩ = some (.int .u8 a0)) (h1 : w.cell? ⟨b, off + 1, none⟩ = some (.int .u8 a1)) (h2 : w.cell? ⟨b, off + 2, none⟩ = some (.int .u8 a2)) (h3 : w.cell? ⟨b, off + 3, none⟩ = some (.int .u8 a3))
    (h4 : w.cell? ⟨b, off + 4, none⟩ = some (.int .u8 a4)) (h5 : w.cell? ⟨b, off + 5, none⟩ = some (.int .u8 a5)) (h6 : w.cell? ⟨b, off + 6, none⟩ = some (.int .u8 a6)) (h7 : w.cell? ⟨b, off + 7, none⟩ = some (.int .u8 a7))
    (l0 : a0 < 256) (l1 : a1 < 256) (l2 : a2 < 256) (l3 : a3 < 256) (l4 : a4 < 256) (l5 : a5 < 256) (l6 : a6 < 256) (l7 : a7 < 256) :
    Calls Tryd.prog 73 #[.agg #[], .slice (some ⟨b, off, none⟩) 8 cap] w fun e w' => e = .returned (.int .u64 (le64 a0 a1 a2 a3 a4 a5 a6 a7)) ∧ Below w.heap.size w w' := by
  have hb := World.block_lt_of_cell? w _ h0
  go_enter Tryd.func73, Tryd.ntmps73
  go_wp2
  go_quiet (fail)
  go_wp2
  go_ret
  exact ⟨ret_int (le64_val a0 a1 a2 a3 a4 a5 a6 a7 l0 l1 l2 l3 l4 l5 l6 l7), below_drewN ((Below.refl _ _).alloc (Nat.le_refl _) _) _⟩
end Go.Proofs.YtpfmfigommmjiaaDoor
namespace Go.Proofs.YtpfmfigommmjiaaDoor
open Go.RowKit Plain
namespace Plain
def mfold (mask x : Nat) (l : List Nat) : Nat :=
  if _h : l.length = 0 then x else mfold mask (mstep x (leL (pad8 l)) &&& mask) (l.drop 8)
termination_by l.length
decreasing_by simp only [List.length_drop]; omega
theorem mfold_nil (mask x : Nat) (l : List Nat) (h : l.length = 0) : mfold mask x l = x := by rw [mfold, dif_pos h]
theorem mfold_step (mask x : Nat) (l : List Nat) (h : l.length ≠ 0) : mfold mask x l = mfold mask (mstep x (leL (pad8 l)) &&& mask) (l.drop 8) := by rw [mfold, dif_neg h]
def msum (mask : Nat) (l : List Nat) : Nat := mstep (mfold mask 0 l) l.length &&& mask
theorem leL_lt (l : List Nat) (h : ∀ c ∈ l, c < 256) : leL l < 18446744073709551616 := by
  have hg : ∀ i, l.getD i 0 < 256 := fun i => by
    rw [List.getD_eq_getElem?_getD]
    cases hg : l[i]? with
    | none => decide
    | some v => exact h v (List.mem_of_getElem? hg)
  exact le64_lt _ _ _ _ _ _ _ _ (hg 0) (hg 1) (hg 2) (hg 3) (hg 4) (hg 5) (hg 6) (hg 7)
end Plain
theorem row_byte {w : World} {B : Nat} {t : TypeId} {l : List Nat} (h : w.heap[B]? = some (.cells (l.map bV).toArray t (0, 0))) (i : Nat) (hi : i < l.length) : w.cell? ⟨B, i, none⟩ = some (.int .u8 ((l.getD i 0 : Nat) : Int)) := by
  rw [cell_of_row _ _ _ _ _ _ h]
  simp [List.getElem?_map, List.getD_eq_getElem?_getD, List.getElem?_eq_getElem hi, bV]
theorem le64_row (B : Nat) (t : TypeId) (l : List Nat) (w : World) (h : w.heap[B]? = some (.cells (l.map bV).toArray t (0, 0))) (hl : l.length = 8) (hb : ∀ c ∈ l, c < 256) :
    Calls Tryd.prog 73 #[.agg #[], .slice (some ⟨B, 0, none⟩) 8 8] w fun e w' => e = .returned (.int .u64 (leL l : Nat)) ∧ Below w.heap.size w w' := by
  have hg : ∀ i, l.getD i 0 < 256 := fun i => by
    rw [List.getD_eq_getElem?_getD]
    cases hg : l[i]? with
    | none => decide
    | some v => exact hb v (List.mem_of_getElem? hg)
  have hc := fun i hi => row_byte h i hi
  have h0 := hc 0 (by omega)
  have h1 := hc 1 (by omega)
  have h2 := hc 2 (by omega)
  have h3 := hc 3 (by omega)
  have h4 := hc 4 (by omega)
  have h5 := hc 5 (by omega)
  have h6 := hc 6 (by omega)
  have h7 := hc 7 (by omega)
  exact le64_any B 0 8 _ _ _ _ _ _ _ _ w h0 h1 h2 h3 h4 h5 h6 h7 (hg 0) (hg 1) (hg 2) (hg 3) (hg 4) (hg 5) (hg 6) (hg 7)
def szOf : Value → Nat
  | .string b => b.size
  | _ => 0
set_option maxRecDepth 100000 in
set_option maxHeartbeats 1000000 in
theorem sum_any (s : ByteArray) (mask : Nat) (w : World) (hs : s.size ≤ 9223372036854775807) (hm : mask < M64) :
    Calls Tryd.prog 61 #[.string s, .int .u64 (mask : Int)] w fun e w' => e = .returned (.int .u64 (msum mask (strN s) : Nat)) ∧ Below w.heap.size w w' := by
  have HM := Lib.hid hm
  have HS0 := Lib.hid hs
  clear hm
  have hwr : IntKind.u64.wrap (s.size : Int) = (s.size : Int) := by rw [IntKind.wrap_u64]; omega
  clear hs
  go_enter Tryd.func61, Tryd.ntmps61
  go_wp2_with fail
  go_loopw [0, 5] (fun sv xv wr => ∃ (s' : ByteArray) (x : Nat), sv = .string s' ∧ xv = .int .u64 (x : Int) ∧ x < M64 ∧ mfold mask x (strN s') = mfold mask 0 (strN s) ∧ s'.size ≤ 9223372036854775807 ∧ Below w.heap.size w wr) (fun sv _ _ => szOf sv)
  case atStart => exact ⟨s, 0, rfl, rfl, by decide, rfl, HS0.out, Below.refl _ _⟩
  case round =>
    obtain ⟨s', x, rfl, rfl, hx, hf, hsz, hbl⟩ := hrel
    have HX := Lib.hid hx
    have HF := Lib.hid hf
    have HZ := Lib.hid hsz
    have BL := Lib.hid hbl
    clear hx hf hsz hbl
    have hemp : s'.toList.isEmpty = decide (s'.size = 0) := by
      have hl : s'.data.toList.length = s'.size := by rw [Array.length_toList]; rfl
      rw [Lib.toList_data]
      cases hd : s'.data.toList with
      | nil => rw [hd] at hl; simp at hl; simp [← hl]
      | cons a l => rw [hd] at hl; simp at hl; simp [← hl]
    by_cases he : s'.size = 0
    · have he2 : s'.toList.isEmpty = true := by rw [hemp]; exact decide_eq_true he
      clear hemp
      have hx := HF.out
      rw [mfold_nil _ _ _ (by rw [strN_length]; exact he)] at hx
      have HX2 := Lib.hid hx
      clear hx he
      have HC := Lib.hid fun wx => step_any x s.size wx HX.out (by have := HS0.out; show _ < M64; rw [m64]; omega)
      have hlt := mstep_lt x s.size
      have ha := bits_and_u64_nat (mstep x s.size) mask (lt64 hlt) (lt64 HM.out)
      have hr : Hid (mstep x s.size &&& mask = msum mask (strN s)) := by unfold msum; rw [← HX2.out, strN_length]; rfl
      generalize mstep x s.size = y at *
      generalize y &&& mask = z at *
      clear hlt
      go_wp2_with (go_at_call 72; refine (HC.out _).mono ?_; rintro e w' ⟨rfl, rfl⟩)
      go_ret
      exact ⟨ret_int (by rw [hr.out]), BL.out⟩
    · have he2 : s'.toList.isEmpty = false := by rw [hemp]; exact decide_eq_false he
      clear hemp
      have hne : (strN s').length ≠ 0 := by rw [strN_length]; exact he
      have hf := HF.out
      rw [mfold_step _ _ _ hne] at hf
      have hext : strN (s'.extract (min s'.size 8) s'.size) = (strN s').drop 8 := by
        rw [extract_strN]
        rcases Nat.lt_or_ge s'.size 8 with h | h
        · rw [Nat.min_eq_left (Nat.le_of_lt h), List.drop_eq_nil_of_le (by rw [strN_length]; omega), List.drop_eq_nil_of_le (by rw [strN_length]; omega)]
        · rw [Nat.min_eq_right h]
      have hes : (s'.extract (min s'.size 8) s'.size).size = s'.size - 8 := by rw [← strN_length, hext, List.length_drop, strN_length]
      have HES := Lib.hid hes
      have HEX := Lib.hid hext
      have hb := leL_lt _ (pad8_lt _ (strN_lt s'))
      have HC := Lib.hid fun wx => step_any x (leL (pad8 (strN s'))) wx HX.out (by show _ < M64; rw [m64]; exact hb)
      have hlt := mstep_lt x (leL (pad8 (strN s')))
      have ha := bits_and_u64_nat (mstep x (leL (pad8 (strN s')))) mask (lt64 hlt) (lt64 HM.out)
      have hz : mstep x (leL (pad8 (strN s'))) &&& mask < 18446744073709551616 := Nat.lt_of_le_of_lt Nat.and_le_left (lt64 hlt)
      have RZ := Lib.hid (heap_alloc_new wr (.cells ((List.replicate 8 0).map bV).toArray 42))
      have hcp := run_copy8 (P := Tryd.prog) (wr.alloc (.cells ((List.replicate 8 0).map bV).toArray 42)) 53 9 3 5 wr.heap.size s' 42 Tryd.underlying53 (by kernel_rfl) RZ.out
      have HCP := Lib.hid hcp
      have RP := Lib.hid (setRow_heap (wr.alloc (.cells ((List.replicate 8 0).map bV).toArray 42)) wr.heap.size _ ((pad8 (strN s')).map bV).toArray _ _ RZ.out)
      have BP := Lib.hid (below_setRow (BL.out.alloc BL.out.size (.cells ((List.replicate 8 0).map bV).toArray 42)) BL.out.size ((pad8 (strN s')).map bV).toArray)
      have HU : Hid (∀ (wx : World), wx.heap[wr.heap.size]? = some (.cells ((pad8 (strN s')).map bV).toArray 42 (0, 0)) → Calls Tryd.prog 73 #[.agg #[], .slice (some ⟨wr.heap.size, 0, none⟩) 8 8] wx fun e w' => e = .returned (.int .u64 (leL (pad8 (strN s')) : Nat)) ∧ Below wx.heap.size wx w') :=
        fun wx h => le64_row _ _ _ wx h (pad8_length _) (pad8_lt _ (strN_lt s'))
      have mn : ((min s'.size 8 : Nat) : Int) ≤ (s'.size : Int) := by omega
      have mn0 : (0 : Int) ≤ ((min s'.size 8 : Nat) : Int) := Int.natCast_nonneg _
      have HF2 := Lib.hid hf
      clear hf hext hes hcp hne hb hlt
      generalize leL (pad8 (strN s')) = bl at *
      generalize mstep x bl = y at *
      generalize y &&& mask = z at *
      generalize (wr.alloc (.cells ((List.replicate 8 0).map bV).toArray 42)).setRow wr.heap.size ((pad8 (strN s')).map bV).toArray = w2 at *
      generalize min s'.size 8 = m8 at *
      go_wp2_with (first | (refine Lib.wpList_copy_run _ rfl _ _ 53 9 rfl _ _ rfl rfl HCP.out ?_))
      refine wp_region_noPanic ?_
      refine wp_region_held_drew (S := fun _ => True) (by kernel_rfl) trivial (fun _ => ?_)
      have RV : Hid (w2.drew.heap[wr.heap.size]? = some (.cells ((pad8 (strN s')).map bV).toArray 42 (0, 0))) := RP.out
      have BV : Hid (Below w.heap.size w w2.drew) := BP.out.drew
      clear RP BP RZ HCP
      generalize w2.drew = v0 at *
      refine take_val 0 (.int .u64 (x : Int)) rfl (by kernel_rfl) (by kernel_rfl) (by kernel_rfl) (fun _ _ _ _ h => h) (by rfl) rfl (fun w _ => by go_simp) trivial ?_
      try simp only [List.set_cons_zero, List.set_cons_succ]
      refine take_val 1 (.agg #[]) rfl (by kernel_rfl) (by kernel_rfl) (by kernel_rfl) (fun _ _ _ _ h => h) (by rfl) rfl (fun w _ => by go_simp) trivial ?_
      try simp only [List.set_cons_zero, List.set_cons_succ]
      refine take_val 2 (.slice (some ⟨wr.heap.size, 0, none⟩) 8 8) rfl (by kernel_rfl) (by kernel_rfl) (by kernel_rfl) (fun _ _ _ _ h => h) (by rfl) rfl (fun w _ => by go_simp) trivial ?_
      try simp only [List.set_cons_zero, List.set_cons_succ]
      refine take_val 5 (.int .u64 (mask : Int)) rfl (by kernel_rfl) (by kernel_rfl) (by kernel_rfl) (fun _ _ _ _ h => h) (by rfl) rfl (fun w _ => by go_simp) trivial ?_
      try simp only [List.set_cons_zero, List.set_cons_succ]
      refine one_ready 3 (by kernel_rfl) rfl (by rfl) (fun K hK => ?_)
      go_simp
      refine (HU.out _ RV.out).mono ?_
      rintro e v1 ⟨rfl, hb1⟩
      go_wp2_with fail
      refine hK.out _ _ trivial ?_
      clear hK K
      try simp only [Act.put, List.setIfInBounds_toArray, List.set_cons_zero, List.set_cons_succ]
      have BV1 := Lib.hid (Below.step BV.out hb1)
      clear BV RV HU hb1
      refine one_ready 4 (by kernel_rfl) rfl (by rfl) (fun K hK => ?_)
      go_simp
      refine (HC.out _).mono ?_
      rintro e v2 ⟨rfl, rfl⟩
      go_wp2_with fail
      refine hK.out _ _ trivial ?_
      clear hK K
      try simp only [Act.put, List.setIfInBounds_toArray, List.set_cons_zero, List.set_cons_succ]
      refine take_val 6 (.int .u64 (z : Int)) rfl (by kernel_rfl) (by kernel_rfl) (by kernel_rfl) (fun _ _ _ _ h => h) (by rfl) rfl (fun w _ => by go_simp) trivial ?_
      try simp only [List.set_cons_zero, List.set_cons_succ]
      refine take_val 7 (.int .u64 (z : Int)) rfl (by kernel_rfl) (by kernel_rfl) (by kernel_rfl) (fun _ _ _ _ h => h) (by rfl) rfl (fun w _ => by go_simp) trivial ?_
      try simp only [List.set_cons_zero, List.set_cons_succ]
      refine wpAnyH_done (by kernel_rfl) ?_ _
      refine NoPanic.normal ?_
      go_wp2_with fail
      go_roundw
      case rel => exact ⟨_, z, rfl, rfl, by rw [m64]; exact hz, by rw [HEX.out]; exact HF2.out, by rw [HES.out]; have := HZ.out; omega, BV1.out⟩
      case measure => simp only [szOf]; rw [HES.out]; omega
end Go.Proofs.YtpfmfigommmjiaaDoor
