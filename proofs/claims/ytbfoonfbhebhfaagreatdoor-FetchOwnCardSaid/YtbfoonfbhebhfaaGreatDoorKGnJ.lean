/- Joined: Basis, MixPlain, MixW, Words, Drawn, StoreNew, MixSum, MixSumW, MixId, App64. -/
import Derived.Test.YtbfoonfbhebhfaaGreatDoorRows
import Derived.Test.YtbfoonfbhebhfaaGreatDoorKGnB
import Derived.WalkKit
import Derived.WalkSpells
import Derived.WalkLawsBesides
import Derived.Lib.Hide
import Derived.Deep.MidRow
import Derived.Deep.RegionHeld3
import Derived.Lib.BufferWrite
import Derived.Lib.SlBuf
import Derived.BigQuiet
import Derived.Deep.QuietTactic
import Derived.Laws.CopyOwn
import Derived.Test.YtbfoonfbhebhfaaGreatDoorKGnI
import Derived.Test.YtbfoonfbhebhfaaGreatDoorKGnH
namespace Go.Proofs.YtbfoonfbhebhfaaGreatDoor.Plain
def Lin (f : Nat → Nat) : Prop := ∀ a b, f (a ^^^ b) = f a ^^^ f b
theorem Lin.zero {f : Nat → Nat} (h : Lin f) : f 0 = 0 := by
 have := h 0 0
 simpa using this
theorem Lin.comp {f g : Nat → Nat} (hf : Lin f) (hg : Lin g) : Lin (fun x => f (g x)) := fun a b => by
 show f (g (a ^^^ b)) = _
 rw [hg, hf]
theorem Lin.xor {f g : Nat → Nat} (hf : Lin f) (hg : Lin g) : Lin (fun x => f x ^^^ g x) := fun a b => by
 show f (a ^^^ b) ^^^ g (a ^^^ b) = (f a ^^^ g a) ^^^ (f b ^^^ g b)
 rw [hf, hg]
 ac_rfl
theorem Lin.id : Lin (fun x => x) := fun _ _ => rfl
theorem Lin.shl (i : Nat) : Lin (fun x => x <<< i) := fun _ _ => Nat.shiftLeft_xor_distrib
theorem Lin.bit (i c : Nat) : Lin (fun x => bif x.testBit i then c else 0) := fun a b => by
 show (bif (a ^^^ b).testBit i then c else 0) = (bif a.testBit i then c else 0) ^^^ (bif b.testBit i then c else 0)
 rw [Nat.testBit_xor]
 cases a.testBit i <;> cases b.testBit i <;> simp
theorem xor_top {a n : Nat} (h : a < 2 ^ (n + 1)) (ht : a.testBit n = true) : a ^^^ 2 ^ n < 2 ^ n := by
 apply Nat.lt_pow_two_of_testBit
 intro i hi
 rw [Nat.testBit_xor]
 by_cases e : i = n
 ·
  subst e; simp [ht]
 ·
  have h1 : a.testBit i = false := Nat.testBit_lt_two_pow (Nat.lt_of_lt_of_le h (Nat.pow_le_pow_right (by omega) (by omega)))
  rw [h1, Nat.testBit_two_pow]
  simp; omega
theorem lt_of_top {a n : Nat} (h : a < 2 ^ (n + 1)) (ht : a.testBit n = false) : a < 2 ^ n := by
 apply Nat.lt_pow_two_of_testBit
 intro i hi
 by_cases e : i = n
 ·
  subst e; exact ht
 ·
  exact Nat.testBit_lt_two_pow (Nat.lt_of_lt_of_le h (Nat.pow_le_pow_right (by omega) (by omega)))
end Go.Proofs.YtbfoonfbhebhfaaGreatDoor.Plain
namespace Go.Proofs.YtbfoonfbhebhfaaGreatDoor.Plain
def M64 : Nat := 18446744073709551616
def mixF : Nat := 11400714819323198485
def mixS : Nat := 13787848793156543929
def mstep (x b : Nat) : Nat :=
 let z := (x ^^^ b) * mixF % M64
 let u := (z ^^^ z / 2 ^ 29) * mixS % M64
 u ^^^ u / 2 ^ 32
theorem M64_eq : M64 = 2 ^ 64 := by decide
theorem xor_lt64 {a b : Nat} (ha : a < M64) (hb : b < M64) : a ^^^ b < M64 := by
 rw [M64_eq] at *
 exact Nat.xor_lt_two_pow ha hb
theorem mod_lt64 (a : Nat) : a % M64 < M64 := Nat.mod_lt _ (by decide)
theorem div_lt64 {a : Nat} (k : Nat) (h : a < M64) : a / k < M64 := Nat.lt_of_le_of_lt (Nat.div_le_self _ _) h
theorem mstep_lt (x b : Nat) : mstep x b < M64 := by
 unfold mstep
 simp only
 exact xor_lt64 (mod_lt64 _) (div_lt64 _ (mod_lt64 _))
end Go.Proofs.YtbfoonfbhebhfaaGreatDoor.Plain
namespace Go.Proofs.YtbfoonfbhebhfaaGreatDoor
open Go.RowKit Plain
theorem m64 : M64 = 18446744073709551616 := by decide
theorem lt64 {a : Nat} (h : a < M64) : a < 18446744073709551616 := m64 ▸ h
theorem wmul (X C : Nat) : IntKind.u64.wrap ((X : Int) * (C : Int)) = ((X * C % M64 : Nat) : Int) := by
 rw [IntKind.wrap_u64, m64, Int.natCast_emod, Int.natCast_mul]; rfl
theorem bxor {x b : Nat} (hx : x < M64) (hb : b < M64) : bits .xor .u64 (x : Int) (b : Int) = ((x ^^^ b : Nat) : Int) := by
 rw [m64] at *; exact bits_xor_u64_nat x b hx hb
theorem bxshift (k : Nat) {x : Nat} (hx : x < M64) : bits .xor .u64 (x : Int) ((x : Int) / (k : Int)) = ((x ^^^ x / k : Nat) : Int) := by
 rw [← Int.natCast_ediv]; exact bxor hx (div_lt64 k hx)
theorem castF : (11400714819323198485 : Int) = ((mixF : Nat) : Int) := by unfold mixF; simp
theorem castS : (13787848793156543929 : Int) = ((mixS : Nat) : Int) := by unfold mixS; simp
theorem cast29 : (536870912 : Int) = ((2 ^ 29 : Nat) : Int) := by simp
theorem cast32 : (4294967296 : Int) = ((2 ^ 32 : Nat) : Int) := by simp
theorem mstep_val (x b : Nat) (hx : x < M64) (hb : b < M64) :
  bits .xor .u64 (IntKind.u64.wrap (bits .xor .u64 (IntKind.u64.wrap (bits .xor .u64 (x : Int) (b : Int) * 11400714819323198485)) (IntKind.u64.wrap (bits .xor .u64 (x : Int) (b : Int) * 11400714819323198485) / 536870912) * 13787848793156543929)) (IntKind.u64.wrap (bits .xor .u64 (IntKind.u64.wrap (bits .xor .u64 (x : Int) (b : Int) * 11400714819323198485)) (IntKind.u64.wrap (bits .xor .u64 (x : Int) (b : Int) * 11400714819323198485) / 536870912) * 13787848793156543929) / 4294967296) = ((mstep x b : Nat) : Int) := by
 rw [bxor hx hb, castF, castS, cast29, cast32, wmul]
 unfold mstep
 generalize hz : (x ^^^ b) * mixF % M64 = z
 have hz' : z < M64 := hz ▸ mod_lt64 _
 rw [bxshift (2 ^ 29) hz', wmul]
 generalize hu : (z ^^^ z / 2 ^ 29) * mixS % M64 = u
 have hu' : u < M64 := hu ▸ mod_lt64 _
 rw [bxshift (2 ^ 32) hu']
 simp only [hu]
set_option maxRecDepth 100000 in
theorem step_any (x b : Nat) (w : World) (hx : x < M64) (hb : b < M64) :
  Calls Tryz.prog 132 #[.int .u64 x, .int .u64 b] w fun e w' => e = .returned (.int .u64 (mstep x b)) ∧ w = w' := by
 go_enter Tryz.func132, Tryz.ntmps132
 go_wp2
 go_ret
 exact ⟨ret_int (mstep_val x b hx hb), rfl⟩
end Go.Proofs.YtbfoonfbhebhfaaGreatDoor
namespace Go.Proofs.YtbfoonfbhebhfaaGreatDoor
open Go.RowKit
def uV (n : Nat) : Value := .int .u64 (n : Int)
def uC (l : List Nat) : Array Value := (l.map uV).toArray
theorem uC_size (l : List Nat) : (uC l).size = l.length := by simp [uC]
def URow (w : World) (e : TypeId) (B : Nat) (l : List Nat) : Prop := w.heap[B]? = some (.cells (uC l) e (0, 0))
theorem URow.cell {w : World} {e : TypeId} {B : Nat} {l : List Nat} (h : URow w e B l) {k : Nat} (hk : k < l.length) : w.cell? ⟨B, k, none⟩ = some (.int .u64 ((l.getD k 0 : Nat) : Int)) := by
 rw [cell_of_row w B k _ e _ h]
 simp [uC, List.getElem?_map, List.getD_eq_getElem?_getD, List.getElem?_eq_getElem hk, uV]
theorem URow.frozen {w : World} {e : TypeId} {B : Nat} {l : List Nat} (h : URow w e B l) (k : Nat) : w.frozen? ⟨B, k, none⟩ = false := frozen_of_row w B k _ e h
theorem URow.drew {w : World} {e : TypeId} {B : Nat} {l : List Nat} (h : URow w e B l) : URow w.drew e B l := h
theorem URow.lt {w : World} {e : TypeId} {B : Nat} {l : List Nat} (h : URow w e B l) : B < w.heap.size := lt_of_block h
theorem URow.below {w w' : World} {e : TypeId} {B : Nat} {l : List Nat} (h : URow w e B l) (hb : Below w.heap.size w w') : URow w' e B l := (hb.block B h.lt).trans h
theorem URow.set {w : World} {e : TypeId} {B : Nat} {l : List Nat} (h : URow w e B l) (k v : Nat) : URow (w.setCell ⟨B, k, none⟩ (.int .u64 (v : Int))) e B (l.set k v) := by
 have := heap_setCell_same w B k _ e (.int .u64 (v : Int)) h
 unfold URow
 rw [this]
 simp [uC, List.map_set, uV]
theorem URow.new (w : World) (e : TypeId) (l : List Nat) : URow (w.alloc (.cells (uC l) e)) e w.heap.size l := heap_alloc_new w _
theorem URow.alloc {w : World} {e : TypeId} {B : Nat} {l : List Nat} (h : URow w e B l) (o : Obj) : URow (w.alloc o) e B l := (Below.heap_alloc w o B h.lt).trans h
theorem URow.other {w : World} {e : TypeId} {B : Nat} {l : List Nat} (h : URow w e B l) {a : Addr} (ha : B ≠ a.block) (v : Value) : URow (w.setCell a v) e B l := (heap_setCell_other w a B v ha).trans h
theorem heap_setCells (b : Nat) (t : TypeId) : ∀ (vs : List Value) (o : Nat) (w : World) (cs : Array Value), w.heap[b]? = some (.cells cs t (0, 0)) →
  ∃ cs', (w.setCells b o vs).heap[b]? = some (.cells cs' t (0, 0)) ∧ cs'.size = cs.size ∧ ∀ i, cs'[i]? = if o ≤ i ∧ i < o + vs.length ∧ i < cs.size then vs[i - o]? else cs[i]?
 | [], o, w, cs, h => ⟨cs, h, rfl, fun i => by rw [if_neg (by simp; omega)]⟩
 | v :: r, o, w, cs, h => by
  have h1 := heap_setCell_same w b o cs t v h
  obtain ⟨cs', h2, h3, h4⟩ := heap_setCells b t r (o + 1) (w.setCell ⟨b, o, none⟩ v) _ h1
  refine ⟨cs', h2, by rw [h3]; simp, fun i => ?_⟩
  rw [h4]
  simp only [Array.size_setIfInBounds, List.length_cons]
  by_cases hi : i = o
  ·
   subst hi
   rw [if_neg (by omega)]
   by_cases hs : i < cs.size
   ·
    rw [if_pos ⟨by omega, by omega, hs⟩]
    simp [hs]
   ·
    rw [if_neg (by omega)]
    simp [hs]
  ·
   by_cases hc : o + 1 ≤ i ∧ i < o + 1 + r.length ∧ i < cs.size
   ·
    rw [if_pos hc, if_pos ⟨by omega, by omega, by omega⟩]
    rw [show i - o = (i - (o + 1)) + 1 by omega]
    rfl
   ·
    rw [if_neg hc, if_neg (by omega)]
    rw [Array.getElem?_setIfInBounds]
    rw [if_neg (by omega)]
theorem heap_setCells_other (b k : Nat) (hk : k ≠ b) : ∀ (vs : List Value) (o : Nat) (w : World), (w.setCells b o vs).heap[k]? = w.heap[k]?
 | [], _, _ => rfl
 | v :: r, o, w => by
  have := heap_setCells_other b k hk r (o + 1) (w.setCell ⟨b, o, none⟩ v)
  exact this.trans (heap_setCell_other w ⟨b, o, none⟩ k v hk)
theorem URow.there {w : World} {e : TypeId} {B : Nat} {l : List Nat} (h : URow w e B l) : w.there B 0 l.length := fun j hj => by
 rw [Nat.zero_add, h.cell hj]
 exact ⟨rfl, h.frozen j⟩
theorem URow.store {w : World} {e : TypeId} {B : Nat} {l : List Nat} (h : URow w e B l) (m : List Nat) (hm : m.length = l.length) : URow (w.setCells B 0 (uC m).toList) e B m := by
 obtain ⟨cs', h1, h2, h3⟩ := heap_setCells B e (uC m).toList 0 w (uC l) h
 unfold URow
 rw [h1]
 congr 2
 apply Array.ext
 ·
  rw [h2, uC_size, uC_size, hm]
 ·
  intro i hi1 hi2
  have := h3 i
  rw [uC_size] at hi2
  rw [if_pos ⟨by omega, by rw [Array.length_toList, uC_size]; omega, by rw [uC_size]; omega⟩, Array.getElem?_eq_getElem hi1] at this
  simp only [Nat.sub_zero, Array.getElem?_toList] at this
  rw [Array.getElem?_eq_getElem (by rw [uC_size]; exact hi2)] at this
  exact Option.some.inj this
theorem below_setCells {B b : Nat} (hb : B ≤ b) : ∀ (vs : List Value) (o : Nat) {w w1 : World}, Below B w w1 → Below B w (w1.setCells b o vs)
 | [], _, _, _, h => h
 | v :: r, o, _, _, h => below_setCells hb r (o + 1) (h.setCell (p := ⟨b, o, none⟩) hb v)
end Go.Proofs.YtbfoonfbhebhfaaGreatDoor
namespace Go.Proofs.YtbfoonfbhebhfaaGreatDoor
open Go.RowKit
section
variable {P : Program} {ops : Array Oper} {Q : Exit → Act → World → Prop} {md : Region.Mode} {S : World → Prop}
theorem take_row {fuel : Nat} {listed : Array Bool} {l : List Value} {df : List Deferred} {w : World} (i : Nat) {oi : Oper} {d : Nat} {ty : TypeId} {x : Operand} {b o : Nat} {cs : List Value} {ds : TypeDesc}
  (hi : ops[i]? = some oi) (hs : Region.noSelect ops = true) (hf : Region.free md ops listed i = true) (hr : (Region.ready md ops listed).contains i = true)
  (hQ : ∀ c a w v, Q (.panic c) (a.put oi.dst v) w → Q (.panic c) a w)
  (hw : Region.wanted oi (yielded ops l.toArray) = true) (hd : oi.dst = some d) (ho : oi.op = .load ty x) (hx : (Act.mk l.toArray df).eval x = .pointer (some ⟨b, o, none⟩))
  (hS' : ∀ w, S w → w.rangeAt b o cs) (hu : P.underlying ty = some ds) (hrow : ds.isRow = true) (hsz : (P.info? ty).map (·.size) = some cs.length) (hS : S w)
  (h : wpAnyH P md ops Q S fuel (listed.setIfInBounds i true) ⟨(l.set d (.agg cs.toArray)).toArray, df⟩ w) : wpAnyH P md ops Q S (fuel + 1) listed ⟨l.toArray, df⟩ w := by
 refine wpAnyH_take (i := i) (oi := oi) (v := .agg cs.toArray) hi hs hf hr (fun c a w => hQ c a w _) (yieldsIf_load_mid hw ty x ho b o hx cs ds hS' hu hrow hsz) hS ?_
 simpa only [hd, Act.put, List.setIfInBounds_toArray] using h
theorem take_val {fuel : Nat} {listed : Array Bool} {l : List Value} {df : List Deferred} {w : World} (i : Nat) {oi : Oper} {d : Nat} (v : Value)
  (hi : ops[i]? = some oi) (hs : Region.noSelect ops = true) (hf : Region.free md ops listed i = true) (hr : (Region.ready md ops listed).contains i = true)
  (hQ : ∀ c a w v, Q (.panic c) (a.put oi.dst v) w → Q (.panic c) a w)
  (hw : Region.wanted oi (yielded ops l.toArray) = true) (hd : oi.dst = some d) (hv : ∀ w, S w → (execOp (Act.mk l.toArray df).eval oi).run P w = .ok (.value v) w) (hS : S w)
  (h : wpAnyH P md ops Q S fuel (listed.setIfInBounds i true) ⟨(l.set d v).toArray, df⟩ w) : wpAnyH P md ops Q S (fuel + 1) listed ⟨l.toArray, df⟩ w := by
 refine wpAnyH_take (i := i) (oi := oi) (v := v) hi hs hf hr (fun c a w => hQ c a w _) (Or.inl ⟨hw, hv⟩) hS ?_
 simpa only [hd, Act.put, List.setIfInBounds_toArray] using h
theorem one_ready {fuel : Nat} {listed : Array Bool} {a : Act} {w : World} (i : Nat) {o : Oper} (hr : Region.ready md ops listed = [i]) (ho : ops[i]? = some o)
  (hw : Region.wanted o (yielded ops a.tmps) = true)
  (h : ∀ K' : Act → World → Prop, Hid (∀ a w, S w → wpAnyH P md ops Q S fuel (listed.setIfInBounds i true) a w → K' a w) → Oper.wp P o a w K' Q) : wpAnyH P md ops Q S (fuel + 1) listed a w := by
 refine wpAnyH_ready hr (by simp) (AllReadyH.cons ho (fun K hK => ?_) AllReadyH.nil)
 rw [if_pos hw]
 exact h K (Lib.hid fun a w hS hx => hK.out a w hS fun _ => hx)
theorem two_ready {fuel : Nat} {listed : Array Bool} {a : Act} {w : World} (i j : Nat) {o p : Oper} (hr : Region.ready md ops listed = [i, j]) (ho : ops[i]? = some o) (hp : ops[j]? = some p)
  (hw : Region.wanted o (yielded ops a.tmps) = true) (hw2 : Region.wanted p (yielded ops a.tmps) = true)
  (h : ∀ K' : Act → World → Prop, Hid (∀ a w, S w → wpAnyH P md ops Q S fuel (listed.setIfInBounds i true) a w → K' a w) → Oper.wp P o a w K' Q)
  (h2 : ∀ K' : Act → World → Prop, Hid (∀ a w, S w → wpAnyH P md ops Q S fuel (listed.setIfInBounds j true) a w → K' a w) → Oper.wp P p a w K' Q) : wpAnyH P md ops Q S (fuel + 1) listed a w := by
 refine wpAnyH_ready hr (by simp) (AllReadyH.cons ho (fun K hK => ?_) (AllReadyH.cons hp (fun K hK => ?_) AllReadyH.nil))
 ·
  rw [if_pos hw]
  exact h K (Lib.hid fun a w hS hx => hK.out a w hS fun _ => hx)
 ·
  rw [if_pos hw2]
  exact h2 K (Lib.hid fun a w hS hx => hK.out a w hS fun _ => hx)
theorem put_eq {l : List Value} {df : List Deferred} {o : Oper} {d : Nat} {v : Value} (hd : o.dst = some d) : (Act.mk l.toArray df).put o.dst v = ⟨(l.set d v).toArray, df⟩ := by
 simp only [hd, Act.put, List.setIfInBounds_toArray]
end
end Go.Proofs.YtbfoonfbhebhfaaGreatDoor
namespace Go.Proofs.YtbfoonfbhebhfaaGreatDoor
open Go.RowKit
theorem setCells_frame (b : Nat) : ∀ (vs : List Value) (o : Nat) (w : World), w.setCells b o vs = { w with heap := (w.setCells b o vs).heap } ∧ (w.setCells b o vs).heap.size = w.heap.size
 | [], _, _ => ⟨rfl, rfl⟩
 | v :: r, o, w => by
  obtain ⟨h, h2⟩ := setCells_frame b r (o + 1) (w.setCell ⟨b, o, none⟩ v)
  refine ⟨h, ?_⟩
  show ((w.setCell ⟨b, o, none⟩ v).setCells b (o + 1) r).heap.size = _
  rw [h2]
  simp [World.setCell]
theorem setCells_full {w : World} {b : Nat} {t : TypeId} {Z : Array Value} (hz : w.heap[b]? = some (.cells Z t (0, 0))) (cs : Array Value) (h : cs.size = Z.size) :
  (w.setCells b 0 cs.toList).heap[b]? = some (.cells cs t (0, 0)) := by
 obtain ⟨cs', h2, h3, h4⟩ := heap_setCells b t cs.toList 0 w Z hz
 rw [h2]
 congr 2
 apply Array.ext_getElem?
 intro i
 rw [h4]
 by_cases hi : i < Z.size
 ·
  rw [if_pos ⟨Nat.zero_le _, by rw [Array.length_toList]; omega, hi⟩]
  simp
 ·
  rw [if_neg (fun hc => hi hc.2.2)]
  rw [Array.getElem?_eq_none (by omega), Array.getElem?_eq_none (by omega)]
theorem bC_one (l : List Nat) : ((l.map bV).toArray).all (·.oneCell') = true := by
 apply Array.all_eq_true_iff_forall_mem.2
 intro v hv
 simp only [List.mem_toArray, List.mem_map] at hv
 obtain ⟨n, _, rfl⟩ := hv
 rfl
end Go.Proofs.YtbfoonfbhebhfaaGreatDoor
namespace Go.Proofs.YtbfoonfbhebhfaaGreatDoor
open Go.RowKit Plain
namespace Plain
def pad8 (l : List Nat) : List Nat := l.take 8 ++ List.replicate (8 - l.length) 0
theorem pad8_length (l : List Nat) : (pad8 l).length = 8 := by
 simp only [pad8, List.length_append, List.length_take, List.length_replicate]; omega
theorem pad8_lt (l : List Nat) (h : ∀ c ∈ l, c < 256) : ∀ c ∈ pad8 l, c < 256 := by
 intro c hc
 rcases List.mem_append.1 hc with h1 | h1
 ·
  exact h c (List.mem_of_mem_take h1)
 ·
  rw [(List.mem_replicate.1 h1).2]; decide
def le64 (a0 a1 a2 a3 a4 a5 a6 a7 : Nat) : Nat := a0 + a1 * 256 + a2 * 65536 + a3 * 16777216 + a4 * 4294967296 + a5 * 1099511627776 + a6 * 281474976710656 + a7 * 72057594037927936
def leL (l : List Nat) : Nat := le64 (l.getD 0 0) (l.getD 1 0) (l.getD 2 0) (l.getD 3 0) (l.getD 4 0) (l.getD 5 0) (l.getD 6 0) (l.getD 7 0)
end Plain
theorem or_add' (x y i : Nat) (hx : x < 2 ^ i) : x ||| (y * 2 ^ i) = x + y * 2 ^ i := by
 have h := Nat.two_pow_add_eq_or_of_lt hx y
 rw [Nat.or_comm, Nat.mul_comm y, ← h, Nat.add_comm]
theorem le64_lt (a0 a1 a2 a3 a4 a5 a6 a7 : Nat) (l0 : a0 < 256) (l1 : a1 < 256) (l2 : a2 < 256) (l3 : a3 < 256) (l4 : a4 < 256) (l5 : a5 < 256) (l6 : a6 < 256) (l7 : a7 < 256) : le64 a0 a1 a2 a3 a4 a5 a6 a7 < 18446744073709551616 := by
 unfold le64; omega
theorem take8_cells (s : ByteArray) : List.take (min s.size 8) (List.map (fun b : UInt8 => Value.int IntKind.u8 (b.toNat : Int)) s.data.toList) = ((strN s).take 8).map bV := by
 have hl : s.data.toList.length = s.size := by rw [Array.length_toList]; rfl
 rw [← List.take_take, List.take_of_length_le (by rw [List.length_take, List.length_map, hl]; omega)]
 simp only [strN, List.map_take, List.map_map]
 rfl
theorem pad8_cells (s : ByteArray) : (((List.replicate 8 0).map bV).toArray.toList.take (0 + 0) ++ ((strN s).take 8).map bV ++ ((List.replicate 8 0).map bV).toArray.toList.drop (0 + 0 + min s.size 8)).toArray = ((pad8 (strN s)).map bV).toArray := by
 congr 1
 simp only [pad8, Nat.add_zero, List.take_zero, List.nil_append, List.map_append, Nat.zero_add, List.map_replicate, List.drop_replicate, strN_length]
 congr 2
 omega
theorem run_copy8 {P : Program} (w : World) (dT sT ty elem : TypeId) (g : Nat) (s : ByteArray) (t : TypeId)
  (hu : P.underlying dT = some (.slice elem)) (hs : (P.info? elem).map (·.size) = some 1) (hg : w.heap[g]? = some (.cells ((List.replicate 8 0).map bV).toArray t (0, 0))) :
  (Builtin.copy_ #[dT, sT] ty #[.slice (some ⟨g, 0, none⟩) 8 8, .string s]).run P w = .ok (goInt ((min s.size 8 : Nat) : Int)) (w.setRow g ((pad8 (strN s)).map bV).toArray) := by
 have hlen : (((strN s).take 8).map bV).length = min s.size 8 := by rw [List.length_map, List.length_take, strN_length]; omega
 have hst := run_storeCells_at P g 0 t (((strN s).take 8).map bV) 0 _ w hg (by rw [hlen]; simp; omega) (by
  intro v hv
  simp only [List.mem_map] at hv
  obtain ⟨b, _, rfl⟩ := hv
  rfl)
 rw [hlen, pad8_cells, ← take8_cells] at hst
 generalize hm : ((min s.size 8 : Nat) : Int) = m
 have hm2 : ((s.size.min 8 : Nat) : Int) = m := hm
 cases hq : P.info? elem with
 | none => simp [hq] at hs
 | some i =>
  simp [Builtin.copy_, run_underlying hu, Builtin.lenOf, Builtin.firstCells, sizeOf, typeInfo, hq]
  rw [hm2, show s.size.min 8 = min s.size 8 from rfl, hst]
  rfl
theorem le64_val (a0 a1 a2 a3 a4 a5 a6 a7 : Nat) (l0 : a0 < 256) (l1 : a1 < 256) (l2 : a2 < 256) (l3 : a3 < 256) (l4 : a4 < 256) (l5 : a5 < 256) (l6 : a6 < 256) (l7 : a7 < 256) :
  bits .or .u64 (bits .or .u64 (bits .or .u64 (bits .or .u64 (bits .or .u64 (bits .or .u64 (bits .or .u64 (a0 : Int) ((a1 : Int) * 256)) ((a2 : Int) * 65536)) ((a3 : Int) * 16777216)) ((a4 : Int) * 4294967296)) ((a5 : Int) * 1099511627776)) ((a6 : Int) * 281474976710656)) ((a7 : Int) * 72057594037927936) = ((le64 a0 a1 a2 a3 a4 a5 a6 a7 : Nat) : Int) := by
 have e1 : ((a1 : Int) * 256) = ((a1 * 2 ^ 8 : Nat) : Int) := by simp
 have e2 : ((a2 : Int) * 65536) = ((a2 * 2 ^ 16 : Nat) : Int) := by simp
 have e3 : ((a3 : Int) * 16777216) = ((a3 * 2 ^ 24 : Nat) : Int) := by simp
 have e4 : ((a4 : Int) * 4294967296) = ((a4 * 2 ^ 32 : Nat) : Int) := by simp
 have e5 : ((a5 : Int) * 1099511627776) = ((a5 * 2 ^ 40 : Nat) : Int) := by simp
 have e6 : ((a6 : Int) * 281474976710656) = ((a6 * 2 ^ 48 : Nat) : Int) := by simp
 have e7 : ((a7 : Int) * 72057594037927936) = ((a7 * 2 ^ 56 : Nat) : Int) := by simp
 rw [e1, e2, e3, e4, e5, e6, e7]
 rw [bits_or_u64_nat _ _ (by omega) (by omega), or_add' _ _ 8 (by omega), bits_or_u64_nat _ _ (by omega) (by omega), or_add' _ _ 16 (by omega), bits_or_u64_nat _ _ (by omega) (by omega), or_add' _ _ 24 (by omega), bits_or_u64_nat _ _ (by omega) (by omega), or_add' _ _ 32 (by omega),
  bits_or_u64_nat _ _ (by omega) (by omega), or_add' _ _ 40 (by omega), bits_or_u64_nat _ _ (by omega) (by omega), or_add' _ _ 48 (by omega), bits_or_u64_nat _ _ (by omega) (by omega), or_add' _ _ 56 (by omega)]
 rfl
set_option maxRecDepth 100000 in
theorem le64_any (b off cap a0 a1 a2 a3 a4 a5 a6 a7 : Nat) (w : World) (h0 : w.cell? ⟨b, off, none⟩ = some (.int .u8 a0)) (h1 : w.cell? ⟨b, off + 1, none⟩ = some (.int .u8 a1)) (h2 : w.cell? ⟨b, off + 2, none⟩ = some (.int .u8 a2)) (h3 : w.cell? ⟨b, off + 3, none⟩ = some (.int .u8 a3))
  (h4 : w.cell? ⟨b, off + 4, none⟩ = some (.int .u8 a4)) (h5 : w.cell? ⟨b, off + 5, none⟩ = some (.int .u8 a5)) (h6 : w.cell? ⟨b, off + 6, none⟩ = some (.int .u8 a6)) (h7 : w.cell? ⟨b, off + 7, none⟩ = some (.int .u8 a7))
  (l0 : a0 < 256) (l1 : a1 < 256) (l2 : a2 < 256) (l3 : a3 < 256) (l4 : a4 < 256) (l5 : a5 < 256) (l6 : a6 < 256) (l7 : a7 < 256) :
  Calls Tryz.prog 133 #[.agg #[], .slice (some ⟨b, off, none⟩) 8 cap] w fun e w' => e = .returned (.int .u64 (le64 a0 a1 a2 a3 a4 a5 a6 a7)) ∧ Below w.heap.size w w' := by
 have hb := World.block_lt_of_cell? w _ h0
 go_enter Tryz.func133, Tryz.ntmps133
 go_wp2
 go_quiet (fail)
 go_wp2
 go_ret
 exact ⟨ret_int (le64_val a0 a1 a2 a3 a4 a5 a6 a7 l0 l1 l2 l3 l4 l5 l6 l7), below_drewN ((Below.refl _ _).alloc (Nat.le_refl _) _) _⟩
end Go.Proofs.YtbfoonfbhebhfaaGreatDoor
namespace Go.Proofs.YtbfoonfbhebhfaaGreatDoor
open Go.RowKit Plain
namespace Plain
def mfold (mask x : Nat) (l : List Nat) : Nat :=
 if _h : l.length = 0 then x else mfold mask (mstep x (leL (pad8 l)) &&& mask) (l.drop 8)
termination_by l.length
decreasing_by simp only [List.length_drop]; omega
theorem mfold_nil (mask x : Nat) (l : List Nat) (h : l.length = 0) : mfold mask x l = x := by rw [mfold, dif_pos h]
theorem mfold_step (mask x : Nat) (l : List Nat) (h : l.length ≠ 0) : mfold mask x l = mfold mask (mstep x (leL (pad8 l)) &&& mask) (l.drop 8) := by rw [mfold, dif_neg h]
def msum (mask : Nat) (l : List Nat) : Nat := mstep (mfold mask 0 l) l.length &&& mask
theorem leL_lt (l : List Nat) (h : ∀ c ∈ l, c < 256) : leL l < 18446744073709551616 := by
 have hg : ∀ i, l.getD i 0 < 256 := fun i => by
  rw [List.getD_eq_getElem?_getD]
  cases hg : l[i]? with
  | none => decide
  | some v => exact h v (List.mem_of_getElem? hg)
 exact le64_lt _ _ _ _ _ _ _ _ (hg 0) (hg 1) (hg 2) (hg 3) (hg 4) (hg 5) (hg 6) (hg 7)
end Plain
theorem row_byte {w : World} {B : Nat} {t : TypeId} {l : List Nat} (h : w.heap[B]? = some (.cells (l.map bV).toArray t (0, 0))) (i : Nat) (hi : i < l.length) : w.cell? ⟨B, i, none⟩ = some (.int .u8 ((l.getD i 0 : Nat) : Int)) := by
 rw [cell_of_row _ _ _ _ _ _ h]
 simp [List.getElem?_map, List.getD_eq_getElem?_getD, List.getElem?_eq_getElem hi, bV]
theorem le64_row (B : Nat) (t : TypeId) (l : List Nat) (w : World) (h : w.heap[B]? = some (.cells (l.map bV).toArray t (0, 0))) (hl : l.length = 8) (hb : ∀ c ∈ l, c < 256) :
  Calls Tryz.prog 133 #[.agg #[], .slice (some ⟨B, 0, none⟩) 8 8] w fun e w' => e = .returned (.int .u64 (leL l : Nat)) ∧ Below w.heap.size w w' := by
 have hg : ∀ i, l.getD i 0 < 256 := fun i => by
  rw [List.getD_eq_getElem?_getD]
  cases hg : l[i]? with
  | none => decide
  | some v => exact hb v (List.mem_of_getElem? hg)
 have hc := fun i hi => row_byte h i hi
 have h0 := hc 0 (by omega)
 have h1 := hc 1 (by omega)
 have h2 := hc 2 (by omega)
 have h3 := hc 3 (by omega)
 have h4 := hc 4 (by omega)
 have h5 := hc 5 (by omega)
 have h6 := hc 6 (by omega)
 have h7 := hc 7 (by omega)
 exact le64_any B 0 8 _ _ _ _ _ _ _ _ w h0 h1 h2 h3 h4 h5 h6 h7 (hg 0) (hg 1) (hg 2) (hg 3) (hg 4) (hg 5) (hg 6) (hg 7)
def szOf : Value → Nat
 | .string b => b.size
 | _ => 0
set_option maxRecDepth 100000 in
set_option maxHeartbeats 1000000 in
theorem sum_any (s : ByteArray) (mask : Nat) (w : World) (hs : s.size ≤ 9223372036854775807) (hm : mask < M64) :
  Calls Tryz.prog 116 #[.string s, .int .u64 (mask : Int)] w fun e w' => e = .returned (.int .u64 (msum mask (strN s) : Nat)) ∧ Below w.heap.size w w' := by
 have HM := Lib.hid hm
 have HS0 := Lib.hid hs
 clear hm
 have hwr : IntKind.u64.wrap (s.size : Int) = (s.size : Int) := by rw [IntKind.wrap_u64]; omega
 clear hs
 go_enter Tryz.func116, Tryz.ntmps116
 go_wp2_with fail
 go_loopw [0, 5] (fun sv xv wr => ∃ (s' : ByteArray) (x : Nat), sv = .string s' ∧ xv = .int .u64 (x : Int) ∧ x < M64 ∧ mfold mask x (strN s') = mfold mask 0 (strN s) ∧ s'.size ≤ 9223372036854775807 ∧ Below w.heap.size w wr) (fun sv _ _ => szOf sv)
 case atStart => exact ⟨s, 0, rfl, rfl, by decide, rfl, HS0.out, Below.refl _ _⟩
 case round =>
  obtain ⟨s', x, rfl, rfl, hx, hf, hsz, hbl⟩ := hrel
  have HX := Lib.hid hx
  have HF := Lib.hid hf
  have HZ := Lib.hid hsz
  have BL := Lib.hid hbl
  clear hx hf hsz hbl
  have hemp : s'.toList.isEmpty = decide (s'.size = 0) := by
   have hl : s'.data.toList.length = s'.size := by rw [Array.length_toList]; rfl
   rw [Lib.toList_data]
   cases hd : s'.data.toList with
   | nil => rw [hd] at hl; simp at hl; simp [← hl]
   | cons a l => rw [hd] at hl; simp at hl; simp [← hl]
  by_cases he : s'.size = 0
  ·
   have he2 : s'.toList.isEmpty = true := by rw [hemp]; exact decide_eq_true he
   clear hemp
   have hx := HF.out
   rw [mfold_nil _ _ _ (by rw [strN_length]; exact he)] at hx
   have HX2 := Lib.hid hx
   clear hx he
   have HC := Lib.hid fun wx => step_any x s.size wx HX.out (by have := HS0.out; show _ < M64; rw [m64]; omega)
   have hlt := mstep_lt x s.size
   have ha := bits_and_u64_nat (mstep x s.size) mask (lt64 hlt) (lt64 HM.out)
   have hr : Hid (mstep x s.size &&& mask = msum mask (strN s)) := by unfold msum; rw [← HX2.out, strN_length]; rfl
   generalize mstep x s.size = y at *
   generalize y &&& mask = z at *
   clear hlt
   go_wp2_with (go_at_call 132; refine (HC.out _).mono ?_; rintro e w' ⟨rfl, rfl⟩)
   go_ret
   exact ⟨ret_int (by rw [hr.out]), BL.out⟩
  ·
   have he2 : s'.toList.isEmpty = false := by rw [hemp]; exact decide_eq_false he
   clear hemp
   have hne : (strN s').length ≠ 0 := by rw [strN_length]; exact he
   have hf := HF.out
   rw [mfold_step _ _ _ hne] at hf
   have hext : strN (s'.extract (min s'.size 8) s'.size) = (strN s').drop 8 := by
    rw [extract_strN]
    rcases Nat.lt_or_ge s'.size 8 with h | h
    ·
     rw [Nat.min_eq_left (Nat.le_of_lt h), List.drop_eq_nil_of_le (by rw [strN_length]; omega), List.drop_eq_nil_of_le (by rw [strN_length]; omega)]
    ·
     rw [Nat.min_eq_right h]
   have hes : (s'.extract (min s'.size 8) s'.size).size = s'.size - 8 := by rw [← strN_length, hext, List.length_drop, strN_length]
   have HES := Lib.hid hes
   have HEX := Lib.hid hext
   have hb := leL_lt _ (pad8_lt _ (strN_lt s'))
   have HC := Lib.hid fun wx => step_any x (leL (pad8 (strN s'))) wx HX.out (by show _ < M64; rw [m64]; exact hb)
   have hlt := mstep_lt x (leL (pad8 (strN s')))
   have ha := bits_and_u64_nat (mstep x (leL (pad8 (strN s')))) mask (lt64 hlt) (lt64 HM.out)
   have hz : mstep x (leL (pad8 (strN s'))) &&& mask < 18446744073709551616 := Nat.lt_of_le_of_lt Nat.and_le_left (lt64 hlt)
   have RZ := Lib.hid (heap_alloc_new wr (.cells ((List.replicate 8 0).map bV).toArray 29))
   have hcp := run_copy8 (P := Tryz.prog) (wr.alloc (.cells ((List.replicate 8 0).map bV).toArray 29)) 115 9 3 5 wr.heap.size s' 29 Tryz.underlying115 (by kernel_rfl) RZ.out
   have HCP := Lib.hid hcp
   have RP := Lib.hid (setRow_heap (wr.alloc (.cells ((List.replicate 8 0).map bV).toArray 29)) wr.heap.size _ ((pad8 (strN s')).map bV).toArray _ _ RZ.out)
   have BP := Lib.hid (below_setRow (BL.out.alloc BL.out.size (.cells ((List.replicate 8 0).map bV).toArray 29)) BL.out.size ((pad8 (strN s')).map bV).toArray)
   have HU : Hid (∀ (wx : World), wx.heap[wr.heap.size]? = some (.cells ((pad8 (strN s')).map bV).toArray 29 (0, 0)) → Calls Tryz.prog 133 #[.agg #[], .slice (some ⟨wr.heap.size, 0, none⟩) 8 8] wx fun e w' => e = .returned (.int .u64 (leL (pad8 (strN s')) : Nat)) ∧ Below wx.heap.size wx w') :=
    fun wx h => le64_row _ _ _ wx h (pad8_length _) (pad8_lt _ (strN_lt s'))
   have mn : ((min s'.size 8 : Nat) : Int) ≤ (s'.size : Int) := by omega
   have mn0 : (0 : Int) ≤ ((min s'.size 8 : Nat) : Int) := Int.natCast_nonneg _
   have HF2 := Lib.hid hf
   clear hf hext hes hcp hne hb hlt
   generalize leL (pad8 (strN s')) = bl at *
   generalize mstep x bl = y at *
   generalize y &&& mask = z at *
   generalize (wr.alloc (.cells ((List.replicate 8 0).map bV).toArray 29)).setRow wr.heap.size ((pad8 (strN s')).map bV).toArray = w2 at *
   generalize min s'.size 8 = m8 at *
   go_wp2_with (first | (refine Lib.wpList_copy_run _ rfl _ _ 115 9 rfl _ _ rfl rfl HCP.out ?_))
   refine wp_region_noPanic ?_
   refine wp_region_held_drew (S := fun _ => True) (by kernel_rfl) trivial (fun _ => ?_)
   have RV : Hid (w2.drew.heap[wr.heap.size]? = some (.cells ((pad8 (strN s')).map bV).toArray 29 (0, 0))) := RP.out
   have BV : Hid (Below w.heap.size w w2.drew) := BP.out.drew
   clear RP BP RZ HCP
   generalize w2.drew = v0 at *
   refine take_val 0 (.int .u64 (x : Int)) rfl (by kernel_rfl) (by kernel_rfl) (by kernel_rfl) (fun _ _ _ _ h => h) (by rfl) rfl (fun w _ => by go_simp) trivial ?_
   try simp only [List.set_cons_zero, List.set_cons_succ]
   refine take_val 1 (.agg #[]) rfl (by kernel_rfl) (by kernel_rfl) (by kernel_rfl) (fun _ _ _ _ h => h) (by rfl) rfl (fun w _ => by go_simp) trivial ?_
   try simp only [List.set_cons_zero, List.set_cons_succ]
   refine take_val 2 (.slice (some ⟨wr.heap.size, 0, none⟩) 8 8) rfl (by kernel_rfl) (by kernel_rfl) (by kernel_rfl) (fun _ _ _ _ h => h) (by rfl) rfl (fun w _ => by go_simp) trivial ?_
   try simp only [List.set_cons_zero, List.set_cons_succ]
   refine take_val 5 (.int .u64 (mask : Int)) rfl (by kernel_rfl) (by kernel_rfl) (by kernel_rfl) (fun _ _ _ _ h => h) (by rfl) rfl (fun w _ => by go_simp) trivial ?_
   try simp only [List.set_cons_zero, List.set_cons_succ]
   refine one_ready 3 (by kernel_rfl) rfl (by rfl) (fun K hK => ?_)
   go_simp
   refine (HU.out _ RV.out).mono ?_
   rintro e v1 ⟨rfl, hb1⟩
   go_wp2_with fail
   refine hK.out _ _ trivial ?_
   clear hK K
   try simp only [Act.put, List.setIfInBounds_toArray, List.set_cons_zero, List.set_cons_succ]
   have BV1 := Lib.hid (Below.step BV.out hb1)
   clear BV RV HU hb1
   refine one_ready 4 (by kernel_rfl) rfl (by rfl) (fun K hK => ?_)
   go_simp
   refine (HC.out _).mono ?_
   rintro e v2 ⟨rfl, rfl⟩
   go_wp2_with fail
   refine hK.out _ _ trivial ?_
   clear hK K
   try simp only [Act.put, List.setIfInBounds_toArray, List.set_cons_zero, List.set_cons_succ]
   refine take_val 6 (.int .u64 (z : Int)) rfl (by kernel_rfl) (by kernel_rfl) (by kernel_rfl) (fun _ _ _ _ h => h) (by rfl) rfl (fun w _ => by go_simp) trivial ?_
   try simp only [List.set_cons_zero, List.set_cons_succ]
   refine take_val 7 (.int .u64 (z : Int)) rfl (by kernel_rfl) (by kernel_rfl) (by kernel_rfl) (fun _ _ _ _ h => h) (by rfl) rfl (fun w _ => by go_simp) trivial ?_
   try simp only [List.set_cons_zero, List.set_cons_succ]
   refine wpAnyH_done (by kernel_rfl) ?_ _
   refine NoPanic.normal ?_
   go_wp2_with fail
   go_roundw
   case rel => exact ⟨_, z, rfl, rfl, by rw [m64]; exact hz, by rw [HEX.out]; exact HF2.out, by rw [HES.out]; have := HZ.out; omega, BV1.out⟩
   case measure => simp only [szOf]; rw [HES.out]; omega
end Go.Proofs.YtbfoonfbhebhfaaGreatDoor
namespace Go.Proofs.YtbfoonfbhebhfaaGreatDoor
open Go.RowKit Plain
namespace Plain
def be8 (h : Nat) : List Nat := [h / 72057594037927936 % 256, h / 281474976710656 % 256, h / 1099511627776 % 256, h / 4294967296 % 256, h / 16777216 % 256, h / 65536 % 256, h / 256 % 256, h % 256]
theorem be8_lt (h : Nat) : ∀ c ∈ be8 h, c < 256 := by
 intro c hc
 simp only [be8, List.mem_cons, List.not_mem_nil, or_false] at hc
 rcases hc with rfl | rfl | rfl | rfl | rfl | rfl | rfl | rfl <;> exact Nat.mod_lt _ (by decide)
end Plain
theorem be8_cells (h : Nat) : (#[Value.int .u8 ((h : Int) / 72057594037927936 % 256), .int .u8 ((h : Int) / 281474976710656 % 256), .int .u8 ((h : Int) / 1099511627776 % 256), .int .u8 ((h : Int) / 4294967296 % 256), .int .u8 ((h : Int) / 16777216 % 256), .int .u8 ((h : Int) / 65536 % 256), .int .u8 ((h : Int) / 256 % 256), .int .u8 ((h : Int) % 256)] : Array Value) = ((be8 h).map bV).toArray := by
 simp only [be8, List.map_cons, List.map_nil, bV]
 simp
theorem row8 {w : World} {B : Nat} {t : TypeId} {z0 z1 z2 z3 z4 z5 z6 z7 : Value} (hb : w.heap[B]? = some (.cells #[z0, z1, z2, z3, z4, z5, z6, z7] t (0, 0))) (v0 v1 v2 v3 v4 v5 v6 v7 : Value) (o : Obj) :
  (((((((((w.setCell ⟨B, 0, none⟩ v0).setCell ⟨B, 1, none⟩ v1).setCell ⟨B, 2, none⟩ v2).setCell ⟨B, 3, none⟩ v3).setCell ⟨B, 4, none⟩ v4).setCell ⟨B, 5, none⟩ v5).setCell ⟨B, 6, none⟩ v6).setCell ⟨B, 7, none⟩ v7).alloc o).heap[B]? = some (.cells #[v0, v1, v2, v3, v4, v5, v6, v7] t (0, 0)) := by
 have r0 := heap_setCell_same w B 0 _ t v0 hb
 simp only [List.setIfInBounds_toArray, List.set_cons_zero] at r0
 have r1 := heap_setCell_same _ B 1 _ t v1 r0
 simp only [List.setIfInBounds_toArray, List.set_cons_zero, List.set_cons_succ] at r1
 have r2 := heap_setCell_same _ B 2 _ t v2 r1
 simp only [List.setIfInBounds_toArray, List.set_cons_zero, List.set_cons_succ] at r2
 have r3 := heap_setCell_same _ B 3 _ t v3 r2
 simp only [List.setIfInBounds_toArray, List.set_cons_zero, List.set_cons_succ] at r3
 have r4 := heap_setCell_same _ B 4 _ t v4 r3
 simp only [List.setIfInBounds_toArray, List.set_cons_zero, List.set_cons_succ] at r4
 have r5 := heap_setCell_same _ B 5 _ t v5 r4
 simp only [List.setIfInBounds_toArray, List.set_cons_zero, List.set_cons_succ] at r5
 have r6 := heap_setCell_same _ B 6 _ t v6 r5
 simp only [List.setIfInBounds_toArray, List.set_cons_zero, List.set_cons_succ] at r6
 have r7 := heap_setCell_same _ B 7 _ t v7 r6
 simp only [List.setIfInBounds_toArray, List.set_cons_zero, List.set_cons_succ] at r7
 exact ((Below.heap_alloc _ _ _ (lt_of_block r7)).trans r7)
theorem below8 {w : World} {B : Nat} (v0 v1 v2 v3 v4 v5 v6 v7 : Value) (o : Obj) (lt : B < w.heap.size) :
  Below B w (((((((((w.setCell ⟨B, 0, none⟩ v0).setCell ⟨B, 1, none⟩ v1).setCell ⟨B, 2, none⟩ v2).setCell ⟨B, 3, none⟩ v3).setCell ⟨B, 4, none⟩ v4).setCell ⟨B, 5, none⟩ v5).setCell ⟨B, 6, none⟩ v6).setCell ⟨B, 7, none⟩ v7).alloc o) := by
 refine Below.alloc (Below.setCell (Below.setCell (Below.setCell (Below.setCell (Below.setCell (Below.setCell (Below.setCell (Below.setCell (Below.refl _ _) ?_ _) ?_ _) ?_ _) ?_ _) ?_ _) ?_ _) ?_ _) ?_ _) ?_ _
 all_goals simp [World.setCell]
 omega
set_option maxRecDepth 100000 in
theorem put64 (B t h : Nat) (w : World) (hb : w.heap[B]? = some (.cells #[.int .u8 0, .int .u8 0, .int .u8 0, .int .u8 0, .int .u8 0, .int .u8 0, .int .u8 0, .int .u8 0] t (0, 0))) : Calls Tryz.prog 94 #[.agg #[], .slice (some ⟨B, 0, none⟩) 8 8, .int .u64 (h : Int)] w fun e w' => (∃ v, e = .returned v) ∧ w'.heap[B]? = some (.cells ((be8 h).map bV).toArray t (0, 0)) ∧ Below B w w' := by
 have lt := lt_of_block hb
 have c0 : w.cell? ⟨B, 0, none⟩ = some (.int .u8 0) := (cell_of_row _ _ _ _ _ _ hb).trans rfl
 have c1 : w.cell? ⟨B, 1, none⟩ = some (.int .u8 0) := (cell_of_row _ _ _ _ _ _ hb).trans rfl
 have c2 : w.cell? ⟨B, 2, none⟩ = some (.int .u8 0) := (cell_of_row _ _ _ _ _ _ hb).trans rfl
 have c3 : w.cell? ⟨B, 3, none⟩ = some (.int .u8 0) := (cell_of_row _ _ _ _ _ _ hb).trans rfl
 have c4 : w.cell? ⟨B, 4, none⟩ = some (.int .u8 0) := (cell_of_row _ _ _ _ _ _ hb).trans rfl
 have c5 : w.cell? ⟨B, 5, none⟩ = some (.int .u8 0) := (cell_of_row _ _ _ _ _ _ hb).trans rfl
 have c6 : w.cell? ⟨B, 6, none⟩ = some (.int .u8 0) := (cell_of_row _ _ _ _ _ _ hb).trans rfl
 have c7 : w.cell? ⟨B, 7, none⟩ = some (.int .u8 0) := (cell_of_row _ _ _ _ _ _ hb).trans rfl
 have fr := fun k => frozen_of_row _ B k _ _ hb
 have HB := Lib.hid hb
 clear hb
 go_enter Tryz.func94, Tryz.ntmps94
 go_wp2
 refine ⟨rfl, ?_⟩
 refine ⟨_, by simp [results, Tryz.results94]; rfl, ⟨_, rfl⟩, ?_, ?_⟩
 ·
  rw [← be8_cells]
  exact row8 HB.out _ _ _ _ _ _ _ _ _
 ·
  exact below8 _ _ _ _ _ _ _ _ _ lt
def full : Nat := 18446744073709551615
def hsum (l : List Nat) : Nat := msum full l
set_option maxRecDepth 100000 in
theorem hsum_any (s : ByteArray) (w : World) (hs : s.size ≤ 9223372036854775807) : Calls Tryz.prog 95 #[.string s] w fun e w' => e = .returned (.int .u64 (hsum (strN s) : Nat)) ∧ Below w.heap.size w w' := by
 have HC := Lib.hid fun wx => sum_any s full wx hs (by decide)
 have hr : Hid (hsum (strN s) = msum full (strN s)) := rfl
 generalize hsum (strN s) = r at *
 rw [← hr.out] at HC
 clear hr
 have HC2 : Hid (∀ wx : World, Calls Tryz.prog 116 #[.string s, .int .u64 18446744073709551615] wx fun e w' => e = .returned (.int .u64 (r : Int)) ∧ Below wx.heap.size wx w') := HC
 clear HC
 go_enter Tryz.func95, Tryz.ntmps95
 go_wp2_with fail
 refine (HC2.out _).mono ?_
 rintro e w2 ⟨rfl, hb⟩
 go_wp2_with fail
 go_ret
 exact ⟨rfl, hb⟩
end Go.Proofs.YtbfoonfbhebhfaaGreatDoor
namespace Go.Proofs.YtbfoonfbhebhfaaGreatDoor
open Go.RowKit Plain
namespace Plain
theorem vl_be8 (g : Nat) (hg : g < 18446744073709551616) : vl (be8 g) = g := by
 have a1 : g / 65536 = g / 256 / 256 := by rw [Nat.div_div_eq_div_mul]
 have a2 : g / 16777216 = g / 65536 / 256 := by rw [Nat.div_div_eq_div_mul]
 have a3 : g / 4294967296 = g / 16777216 / 256 := by rw [Nat.div_div_eq_div_mul]
 have a4 : g / 1099511627776 = g / 4294967296 / 256 := by rw [Nat.div_div_eq_div_mul]
 have a5 : g / 281474976710656 = g / 1099511627776 / 256 := by rw [Nat.div_div_eq_div_mul]
 have a6 : g / 72057594037927936 = g / 281474976710656 / 256 := by rw [Nat.div_div_eq_div_mul]
 have a7 : g / 72057594037927936 < 256 := by omega
 simp only [be8, vl, List.foldl_cons, List.foldl_nil]
 generalize g / 72057594037927936 = g7 at *
 generalize g / 281474976710656 = g6 at *
 generalize g / 1099511627776 = g5 at *
 generalize g / 4294967296 = g4 at *
 generalize g / 16777216 = g3 at *
 generalize g / 65536 = g2 at *
 generalize h1 : g / 256 = g1 at *
 have e0 : g = 256 * g1 + g % 256 := by omega
 have e1 : g1 = 256 * g2 + g1 % 256 := by omega
 have e2 : g2 = 256 * g3 + g2 % 256 := by omega
 have e3 : g3 = 256 * g4 + g3 % 256 := by omega
 have e4 : g4 = 256 * g5 + g4 % 256 := by omega
 have e5 : g5 = 256 * g6 + g5 % 256 := by omega
 have e6 : g6 = 256 * g7 + g6 % 256 := by omega
 generalize g % 256 = r0 at *
 generalize g1 % 256 = r1 at *
 generalize g2 % 256 = r2 at *
 generalize g3 % 256 = r3 at *
 generalize g4 % 256 = r4 at *
 generalize g5 % 256 = r5 at *
 generalize g6 % 256 = r6 at *
 rw [Nat.mod_eq_of_lt a7]
 subst e6 e5 e4 e3 e2 e1
 omega
end Plain
theorem info_byte : (Tryz.prog.info? 5).map (fun i => (i.zero, i.size, i.bytes)) = some (some (.int .u8 0), 1, 1) := by kernel_rfl
theorem be8_row (h : Nat) : [Value.int .u8 ((h : Int) / 72057594037927936 % 256), .int .u8 ((h : Int) / 281474976710656 % 256), .int .u8 ((h : Int) / 1099511627776 % 256), .int .u8 ((h : Int) / 4294967296 % 256), .int .u8 ((h : Int) / 16777216 % 256), .int .u8 ((h : Int) / 65536 % 256), .int .u8 ((h : Int) / 256 % 256), .int .u8 ((h : Int) % 256)] = (be8 h).map bV := by
 simp only [be8, List.map_cons, List.map_nil, bV]
 simp
def App64End (w0 : World) (x : Nat) (e : Ending) (w : World) : Prop := ∃ v, e = .returned v ∧ w.ownsRow w0.heap.size 5 1 v (be8 x).length ((be8 x).map bV) ∧ Below w0.heap.size w0 w
set_option maxRecDepth 100000 in
theorem app64_any (x : Nat) (w : World) : Calls Tryz.prog 139 #[.agg #[], .slice none 0 0, .int .u64 (x : Int)] w (App64End w x) := by
 obtain ⟨i0, hi0, hz0, hz1, hz2⟩ := info_parts info_byte
 have B1 := Lib.hid ((Below.refl w.heap.size w).alloc (Nat.le_refl _) (.cells #[] 162))
 have BC := Lib.hid (be8_row x)
 have D2 : Hid (∀ u ∈ (be8 x).map bV, u.oneCell' = true) := by
  intro u hu
  obtain ⟨c, _, rfl⟩ := List.mem_map.1 hu
  rfl
 have D3 : Hid (0 + 8 ≤ maxLen) := by show _ ≤ _; unfold maxLen; omega
 have D4 : Hid ((0 + 8) * 1 ≤ 140737488355328) := by show _ ≤ _; omega
 generalize hc0 : (x : Int) / 72057594037927936 % 256 = c0 at BC
 generalize hc1 : (x : Int) / 281474976710656 % 256 = c1 at BC
 generalize hc2 : (x : Int) / 1099511627776 % 256 = c2 at BC
 generalize hc3 : (x : Int) / 4294967296 % 256 = c3 at BC
 generalize hc4 : (x : Int) / 16777216 % 256 = c4 at BC
 generalize hc5 : (x : Int) / 65536 % 256 = c5 at BC
 generalize hc6 : (x : Int) / 256 % 256 = c6 at BC
 generalize hc7 : (x : Int) % 256 = c7 at BC
 have D1 := Lib.hid (cells_new_at (w.alloc (.cells #[] 162)) (w.heap.size + 1) (by simp) #[.int .u8 c0, .int .u8 c1, .int .u8 c2, .int .u8 c3, .int .u8 c4, .int .u8 c5, .int .u8 c6, .int .u8 c7] 5 ((be8 x).map bV) BC.out.symm)
 have D5 : Hid (w.heap.size ≤ ((w.alloc (.cells #[] 162)).alloc (.cells #[.int .u8 c0, .int .u8 c1, .int .u8 c2, .int .u8 c3, .int .u8 c4, .int .u8 c5, .int .u8 c6, .int .u8 c7] 5)).heap.size) := by show _ ≤ _; simp; omega
 have D6 : Hid (((be8 x).map bV).length = 8 * 1) := rfl
 go_enter Tryz.func139, Tryz.ntmps139
 go_wp2_with (at_builtin; refine wpList_append_own _ rfl _ _ 115 rfl w.heap.size 5 i0 (.int .u8 0) 1 1 Tryz.underlying115 hi0 hz0 hz1 hz2 rfl (by decide) (.slice none 0 0) 0 [] rfl (World.ownsRow_nil _ _ _ _) ⟨w.heap.size + 1, 0, none⟩ 8 8 ((be8 x).map bV) rfl D6.out D1.out D2.out D3.out D4.out D5.out ?_)
 intro v' w2 hown' hgrow _
 have BW := Lib.hid (below_own (Below.alloc B1.out B1.out.size _) hgrow (by simp; omega) (World.ownsRow_nil _ w.heap.size 5 1) (Nat.le_refl _))
 have OW : Hid (w2.ownsRow w.heap.size 5 1 v' (be8 x).length ((be8 x).map bV)) := hown'
 clear hown' hgrow
 go_wp2_with fail
 go_ret
 exact ⟨_, rfl, OW.out, BW.out⟩
end Go.Proofs.YtbfoonfbhebhfaaGreatDoor
