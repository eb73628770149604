/- Joined: NamesChk, NamesLib, Slices, Append, Mem, Strs, Bits. -/
import Derived.Test.YtbfoonfbhebhfaaGreatDoorKGnA
import Derived.Lib.DecodeN
import Derived.Lib.RuneCount
import Derived.Lib.ValidU
import Derived.Lib.SplitLaws
import Derived.Lib.Split
import Derived.Lib.IndexBytes
import Derived.WalkKit
import Derived.ProofKit
import Derived.OpenShut
import Derived.SizedLaws
import Derived.Lib.Hide
import Derived.Deep.MidRow
import Derived.Deep.Slices
import Derived.Deep.Fields
import Derived.ChangeSame
import Derived.Laws.OwnMore
import Derived.Deep.Draws
import Derived.WalkSpells
import Derived.WalkLawsBesides
import Derived.Lib.ConvBytes
import Derived.Lib.SlBytesRow
import Derived.Test.YtbfoonfbhebhfaaGreatDoorRows
namespace Go.Proofs.YtbfoonfbhebhfaaGreatDoor
namespace Plain
open Lib (decodeN)
def scanN (s : ByteArray) : Nat → Nat → Nat → Option Nat
 | 0, _, n => some n
 | fuel + 1, pos, n => if pos < s.size then (if (Utf8.decode s pos).1 = 47 ∨ (Utf8.decode s pos).1 < 32 ∨ (Utf8.decode s pos).1 = 127 then none else scanN s fuel (pos + (Utf8.decode s pos).2) (n + 1)) else some n
def dotB : ByteArray := ⟨#[46]⟩
def dot2B : ByteArray := ⟨#[46, 46]⟩
def chkB (s : ByteArray) : Int := if s.size = 0 ∨ s = dotB ∨ s = dot2B ∨ Lib.validD s.data.toList = false then 8 else match scanN s s.size 0 0 with
 | none => 8
 | some n => if 24 < n then 2 else 0
def ck (l : T) : Int := chkB ⟨l.toArray⟩
theorem ck_of (s : ByteArray) : ck s.data.toList = chkB s := rfl
theorem decodeN_parts (n b0 b1 b2 b3 : Nat) : (b0 < 128 → decodeN n b0 b1 b2 b3 = (b0, 1)) ∧ (decodeN n b0 b1 b2 b3).2 ≤ 4 ∧ (1 < (decodeN n b0 b1 b2 b3).2 → b1 / 64 = 2) ∧ (2 < (decodeN n b0 b1 b2 b3).2 → b2 / 64 = 2) ∧ (3 < (decodeN n b0 b1 b2 b3).2 → b3 / 64 = 2) := by
 refine ⟨fun h => by unfold decodeN; rw [if_pos h], ?_⟩
 unfold decodeN
 repeat' split
 all_goals simp_all
theorem get_bang (s : ByteArray) (i : Nat) (h : i < s.size) : s.get! i = s.data.toList.getD i 0 := by
 have h' : i < s.data.size := h
 rw [List.getD_eq_getElem?_getD]
 have e1 : s.data.toList[i]? = some (s.data[i]'h') := by simp
 rw [e1]
 show s.data[i]! = s.data[i]
 rw [getElem!_pos s.data i h']
theorem scan_noslash (s : ByteArray) : ∀ (fuel pos n m : Nat), s.size ≤ pos + fuel → scanN s fuel pos n = some m → ∀ i, pos ≤ i → i < s.size → (s.get! i).toNat ≠ 47
 | 0, pos, n, m, hf, _, i, hi, hs => by omega
 | fuel + 1, pos, n, m, hf, h, i, hi, hs => by
  rw [scanN, if_pos (by omega)] at h
  have hw := Lib.decode_width_pos s pos (by omega)
  have hd := Lib.decode_at s pos
  obtain ⟨p0, p1, p2, p3, p4⟩ := decodeN_parts (s.size - pos) (s.get! pos).toNat (s.get! (pos + 1)).toNat (s.get! (pos + 2)).toNat (s.get! (pos + 3)).toNat
  rw [← hd] at p0 p1 p2 p3 p4
  split at h
  ·
   cases h
  ·
   rename_i hne
   by_cases hlt : i < pos + (Utf8.decode s pos).2
   ·
    intro e
    have hcase : i = pos ∨ i = pos + 1 ∨ i = pos + 2 ∨ i = pos + 3 := by omega
    rcases hcase with rfl | rfl | rfl | rfl
    ·
     have := p0 (by omega)
     rw [this] at hne
     exact hne (.inl e)
    ·
     have := p2 (by omega); omega
    ·
     have := p3 (by omega); omega
    ·
     have := p4 (by omega); omega
   ·
    exact scan_noslash s fuel _ (n + 1) m (by omega) h i (by omega) hs
theorem ck_ok : CkOk ck := by
 intro l h
 unfold ck chkB at h
 split at h
 ·
  cases h
 ·
  rename_i hno
  refine ⟨?_, ?_, ?_, ?_⟩
  ·
   split at h
   ·
    cases h
   ·
    rename_i n hn
    intro hm
    obtain ⟨i, hi, he⟩ := List.mem_iff_getElem.1 hm
    have hsz : (⟨l.toArray⟩ : ByteArray).size = l.length := rfl
    have := scan_noslash ⟨l.toArray⟩ _ 0 0 n (by omega) hn i (by omega) (by omega)
    rw [get_bang _ _ (by omega)] at this
    apply this
    show (l.getD i 0).toNat = 47
    rw [List.getD_eq_getElem?_getD, List.getElem?_eq_getElem hi, Option.getD_some, he]; rfl
  ·
   rintro rfl; exact hno (.inl rfl)
  ·
   rintro rfl; exact hno (.inr (.inl rfl))
  ·
   rintro rfl; exact hno (.inr (.inr (.inl rfl)))
end Plain
end Go.Proofs.YtbfoonfbhebhfaaGreatDoor
namespace Go.Proofs.YtbfoonfbhebhfaaGreatDoor
namespace Plain
open Lib (indexByte)
theorem splitK_cons (c : UInt8) (h : c ≠ 47) : ∀ (k : Nat) (l : T), ∃ a t, Lib.splitK [47] 0 k l = a :: t ∧ Lib.splitK [47] 0 k (c :: l) = (c :: a) :: t
 | 0, l => ⟨l, [], rfl, rfl⟩
 | k + 1, l => by
  have hc : (c == 47) = false := by simpa using h
  by_cases hm : Lib.index l [47] = -1
  ·
   have h2 : Lib.index (c :: l) [47] = -1 := by
    rw [Lib.index_one] at *
    rw [indexByte, hc, hm]; rfl
   refine ⟨l, [], ?_, ?_⟩
   ·
    rw [Lib.splitK, hm]; rfl
   ·
    rw [Lib.splitK, h2]; rfl
  ·
   have hge : -1 ≤ Lib.index l [47] := by rw [Lib.index_one]; exact Lib.indexByte_ge l 47
   obtain ⟨i, hi⟩ : ∃ i : Nat, Lib.index l [47] = i := ⟨(Lib.index l [47]).toNat, by omega⟩
   have h2 : Lib.index (c :: l) [47] = ((i + 1 : Nat) : Int) := by
    rw [Lib.index_one] at *
    rw [indexByte, hc, hi]
    have : ((i : Int) == -1) = false := by simp
    simp [this]
   refine ⟨l.take i, Lib.splitK [47] 0 k (l.drop (i + 1)), ?_, ?_⟩
   ·
    rw [Lib.splitK, hi]
    have : ((i : Int) == -1) = false := by simp
    simp [this]
   ·
    rw [Lib.splitK, h2]
    have : (((i + 1 : Nat) : Int) == -1) = false := by simp; omega
    simp only [this, Bool.false_eq_true, if_false, Int.toNat_natCast, Nat.add_zero, List.length_singleton, List.take_succ_cons]
    rfl
theorem splitK_spl : ∀ l : T, Lib.splitK [47] 0 (l.count 47) l = spl l
 | [] => rfl
 | c :: l => by
  by_cases h : c = 47
  ·
   subst h
   rw [List.count_cons_self, Lib.splitK, Lib.index_one]
   have h0 : indexByte (47 :: l) 47 = 0 := by rw [indexByte]; rfl
   rw [h0, spl, if_pos rfl, ← splitK_spl l]
   rfl
  ·
   rw [List.count_cons_of_ne (by simpa using h)]
   obtain ⟨a, t, h1, h2⟩ := splitK_cons c h (l.count 47) l
   have ih := splitK_spl l
   rw [h1] at ih
   rw [h2, spl, if_neg h, ← ih]
def slashB : ByteArray := ⟨#[47]⟩
theorem splitB_spl (s : ByteArray) : (Lib.splitB slashB 0 (Lib.countB s slashB) s).map (·.data.toList) = spl s.data.toList := by
 rw [Lib.splitB_data]
 show Lib.splitK [47] 0 (Lib.count s.data.toList [47]) s.data.toList = _
 rw [Lib.count_one, splitK_spl]
end Plain
end Go.Proofs.YtbfoonfbhebhfaaGreatDoor
namespace Go.Proofs.YtbfoonfbhebhfaaGreatDoor
open Go.RowKit Go.ChangeShapes Go.WideShapes Go.ChangeAt
def SAt {α : Type} (n : Nat) (c : α → List Value) (w : World) (a : Option Addr) (l : List α) : Prop :=
 ∀ i (h : i < l.length), ∃ g off, a = some ⟨g, off, none⟩ ∧ g < w.heap.size ∧ w.rangeAt g (off + i * n) (c l[i])
section
variable {α : Type} {n : Nat} {c : α → List Value} {w w' : World} {a : Option Addr} {l : List α}
theorem SAt.nil : SAt n c w a ([] : List α) := fun i h => absurd h (by simp)
theorem SAt.below (h : SAt n c w a l) (hb : Below w.heap.size w w') : SAt n c w' a l := fun i hi => by
 obtain ⟨g, off, e, hg, hr⟩ := h i hi
 exact ⟨g, off, e, Nat.lt_of_lt_of_le hg hb.size, fun j u hu => (hb.cell (p := ⟨g, off + i * n + j, none⟩) hg).trans (hr j u hu)⟩
theorem SAt.drew (h : SAt n c w a l) : SAt n c w.drew a l := h
theorem flat_get (hc : ∀ y, (c y).length = n) : ∀ (l : List α) (i j : Nat) (h : i < l.length), j < n → (l.flatMap c)[i * n + j]? = (c l[i])[j]?
 | [], i, j, h, _ => by cases h
 | p :: l, 0, j, h, hj => by
  rw [List.flatMap_cons, List.getElem?_append_left (by rw [hc]; omega)]
  simp
 | p :: l, i + 1, j, h, hj => by
  rw [List.flatMap_cons, List.getElem?_append_right (by rw [hc, Nat.succ_mul]; omega), hc]
  have := flat_get hc l i j (by simpa using h) hj
  rw [show (i + 1) * n + j - n = i * n + j by rw [Nat.succ_mul]; omega, this]
  rfl
theorem flat_length (hc : ∀ y, (c y).length = n) : ∀ l : List α, (l.flatMap c).length = l.length * n
 | [] => by simp
 | p :: l => by rw [List.flatMap_cons, List.length_append, hc, flat_length hc l, List.length_cons, Nat.succ_mul]; omega
theorem SAt.own {base : Nat} {t : TypeId} {v : Value} (h : w.ownsRow base t n v l.length (l.flatMap c)) (hc : ∀ y, (c y).length = n) :
  ∃ a cap, v = .slice a l.length cap ∧ l.length ≤ cap ∧ cap ≤ 9223372036854775807 ∧ SAt n c w a l := by
 obtain ⟨_, h2⟩ := h
 rcases h2 with ⟨hv, h3⟩ | ⟨g, cap, cur, hv, hb, hg, h3, h4, h5, h6⟩
 ·
  refine ⟨none, 0, by rw [hv, h3], by omega, by omega, fun i hi => by omega⟩
 ·
  refine ⟨_, cap, hv, h3, by unfold maxLen at h4; exact h4, fun i hi => ⟨g, 0, rfl, lt_of_block hg, fun j u hu => ?_⟩⟩
  have hj : j < n := by
   rcases Nat.lt_or_ge j n with h | h
   ·
    exact h
   ·
    rw [List.getElem?_eq_none (by rw [hc]; exact h)] at hu; cases hu
  have hlt : i * n + j < l.length * n := by
   have : (i + 1) * n ≤ l.length * n := Nat.mul_le_mul_right _ hi
   rw [Nat.succ_mul] at this
   omega
  rw [Nat.zero_add, cell_of_row _ _ _ _ _ _ hg, ← hu, ← flat_get hc l i j hi hj, ← h6, List.getElem?_take, if_pos hlt]
  simp
theorem SAt.trod {H : Type} {P : Program} {enc : TypeId × Value → H} {base : Nat} {sp : Nat → Bool} {held : Bool} {t e : TypeId} (Pr : α → Prop) (ht : P.underlying t = some (.slice e)) (hC : P.cellsOf e = n) (hn : 0 < n) (hc : ∀ y, (c y).length = n)
  (hread : ∀ fuel cs x, DataW.trod enc P w base sp held fuel e cs = some x → ∃ y, cs = c y ∧ Pr y) {fuel : Nat} {vs : List Value} {d : DataW H × List MemPlace} (hf : DataW.trod enc P w base sp held fuel t vs = some d) :
  ∃ (a : Option Addr) (l : List α) (cap : Nat), vs = [.slice a l.length cap] ∧ l.length ≤ cap ∧ cap ≤ 9223372036854775807 ∧ (∀ y ∈ l, Pr y) ∧ SAt n c w a l ∧ (l = [] ∨ ∃ elems spare, d.1 = .slice elems spare ∧ elems.length = l.length) := by
 rcases Go.Deep.open_slice ht hf with ⟨hcs, _⟩ | ⟨a', len, cap, m, k, D, Pl, hcs, _, hl, hm, hmm, hxd, hx⟩
 ·
  subst hcs
  exact ⟨none, [], 0, rfl, by simp, by simp, by simp, SAt.nil, .inl rfl⟩
 ·
  subst hcs
  have hlm : len ≤ m := by rw [hmm]; split <;> omega
  have hall : ∀ i, i < len → ∃ y : α, Pr y ∧ ∀ j, j < n → w.cell? ((a'.add (i * n)).add j) = (c y)[j]? := by
   intro i hi
   obtain ⟨cs', h1, h2⟩ := hx i (by omega)
   rw [hC] at h1
   obtain ⟨y, rfl, hy⟩ := hread _ _ _ h2
   obtain ⟨_, _, hcl⟩ := World.cells?_some h1
   exact ⟨y, hy, hcl⟩
  by_cases h0 : len = 0
  ·
   subst h0
   exact ⟨some a', [], cap, rfl, by simp, by unfold maxLen at hm; exact hm, by simp, SAt.nil, .inl rfl⟩
  ·
   have : Inhabited α := ⟨(hall 0 (by omega)).choose⟩
   obtain ⟨f, hf'⟩ := Go.Deep.choose_lt hall
   have hget : ∀ k (h : k < ((List.range len).map f).length), ((List.range len).map f)[k] = f k := by intro k h; simp
   refine ⟨some a', (List.range len).map f, cap, by simp, by simpa using hl, by unfold maxLen at hm; exact hm, ?_, ?_, .inr ⟨_, _, by rw [hxd], by simp⟩⟩
   ·
    intro y hy
    simp only [List.mem_map, List.mem_range] at hy
    obtain ⟨i, hi, rfl⟩ := hy
    exact (hf' i hi).1
   ·
    obtain ⟨b, off, spt⟩ := a'
    have hcell := fun i (hi : i < len) j (hj : j < n) => (hf' i hi).2 j hj
    simp only [Go.Deep.add_add] at hcell
    have h00 := hcell 0 (by omega) 0 hn
    rw [List.getElem?_eq_getElem (show 0 < (c (f 0)).length by rw [hc]; exact hn)] at h00
    have hspt : spt = none := by simpa [Addr.add] using World.cell?_spot h00
    subst hspt
    have hbl := World.block_lt_of_cell? _ _ h00
    intro k hk
    refine ⟨b, off, rfl, by simpa [Addr.add] using hbl, ?_⟩
    rw [hget k hk]
    intro j u hu
    have hk' : k < len := by simpa using hk
    have hj : j < n := by
     rcases Nat.lt_or_ge j n with h | h
     ·
      exact h
     ·
      rw [List.getElem?_eq_none (by rw [hc]; exact h)] at hu; cases hu
    have := hcell k hk' j hj
    rw [hu] at this
    rw [← this]
    congr 1
    unfold Addr.add
    split
    ·
     rename_i h0'
     obtain rfl : j = 0 := by omega
     simp
    ·
     simp [Nat.add_assoc]
theorem SAt.open_ {H : Type} {P : Program} {enc : TypeId × Value → H} {r : Reach} {base b0 : Nat} {sp : Nat → Bool} {held : Bool} {t e : TypeId} {v : Value} {d : DataW H} {p : List MemPlace} (Pr : α → Prop) (ht : P.underlying t = some (.slice e)) (hC : P.cellsOf e = n) (hn : 0 < n) (hc : ∀ y, (c y).length = n)
  (hread : ∀ fuel cs x, DataW.trod enc P w base sp held fuel e cs = some x → ∃ y, cs = c y ∧ Pr y) (ho : Value.okWide P w r b0 t v) (hd : DataW.Trod enc P w base sp held t v d p) :
  ∃ (a : Option Addr) (l : List α) (cap : Nat), v = .slice a l.length cap ∧ l.length ≤ cap ∧ cap ≤ 9223372036854775807 ∧ (∀ y ∈ l, Pr y) ∧ SAt n c w a l ∧ (l = [] ∨ ∃ elems spare, d = .slice elems spare ∧ elems.length = l.length) := by
 obtain ⟨a, len, cap, rfl⟩ := okWide_slice ht ho
 obtain ⟨fuel, hf⟩ := hd
 obtain ⟨a', l, cap', hv, h1, h2, h3, h4, h5⟩ := SAt.trod Pr ht hC hn hc hread hf
 simp only [Value.cells, List.cons.injEq, and_true] at hv
 exact ⟨a', l, cap', hv, h1, h2, h3, h4, h5⟩
end
end Go.Proofs.YtbfoonfbhebhfaaGreatDoor
namespace Go.Proofs.YtbfoonfbhebhfaaGreatDoor
open Go.RowKit
theorem cells_new (w : World) (cs : Array Value) (t : TypeId) : ∀ (j : Nat) (u : Value), cs.toList[j]? = some u → (w.alloc (.cells cs t)).cell? ((⟨w.heap.size, 0, none⟩ : Addr).add j) = some u := by
 intro j u hu
 have e : ((⟨w.heap.size, 0, none⟩ : Addr).add j) = ⟨w.heap.size, j, none⟩ := by
  unfold Addr.add
  split
  ·
   rename_i h; subst h; rfl
  ·
   simp
 rw [e, cell_of_row _ _ _ _ _ _ (heap_alloc_new w (.cells cs t))]
 simpa using hu
theorem cells_new_at (w : World) (b : Nat) (hb : b = w.heap.size) (cs : Array Value) (t : TypeId) (news : List Value) (hn : news = cs.toList) : ∀ (j : Nat) (u : Value), news[j]? = some u → (w.alloc (.cells cs t)).cell? ((⟨b, 0, none⟩ : Addr).add j) = some u := by
 subst hb hn
 exact cells_new w cs t
theorem below_dn {B : Nat} {w w1 : World} (h : Below B w w1) (n : Nat) : Below B w (w1.drewN n) := ⟨h.os, h.tape, h.output, h.size, h.block⟩
theorem below_own {B base : Nat} {e : TypeId} {size n : Nat} {v : Value} {xs : List Value} {w0 w w1 : World} (h : Below B w0 w) (hg : w.grownBy w1 v.ownBlock) (hB : B ≤ w.heap.size) (hown : w.ownsRow base e size v n xs) (hbase : B ≤ base) : Below B w0 w1 :=
 h.grown hg hB fun k hk => Nat.le_trans hbase (hown.lt k hk).1
end Go.Proofs.YtbfoonfbhebhfaaGreatDoor
namespace Go.Proofs.YtbfoonfbhebhfaaGreatDoor
open Go.RowKit
def strN (s : ByteArray) : List Nat := s.data.toList.map UInt8.toNat
theorem strN_length (s : ByteArray) : (strN s).length = s.size := by rw [strN, List.length_map, Array.length_toList]; rfl
theorem strN_lt (s : ByteArray) : ∀ c ∈ strN s, c < 256 := by
 intro c hc
 simp only [strN, List.mem_map] at hc
 obtain ⟨b, _, rfl⟩ := hc
 exact b.toNat_lt
theorem strN_getD (s : ByteArray) (j : Nat) : (s.data.toList.getD j 0).toNat = (strN s).getD j 0 := by
 simp only [strN, List.getD_eq_getElem?_getD, List.getElem?_map]
 cases s.data.toList[j]? <;> rfl
theorem bytesWorld_below {w : World} (e : TypeId) (s : ByteArray) : Below w.heap.size w (Lib.bytesWorld w e s) where
 os := rfl
 tape := rfl
 output := rfl
 size := by rw [Lib.bytesWorld_size]; omega
 block k hk := Lib.bytesWorld_at_old w e s k hk
theorem bytesWorld_cellN (w : World) (e : TypeId) (s : ByteArray) (j : Nat) (hj : j < s.size) : (Lib.bytesWorld w e s).cell? ⟨w.heap.size, j, none⟩ = some (.int .u8 (((strN s).getD j 0 : Nat) : Int)) := by
 rw [Lib.bytesWorld_cell w e s j hj, strN_getD]
theorem extract_strN (s : ByteArray) (a : Nat) : strN (s.extract a s.size) = (strN s).drop a := by
 unfold strN
 rw [Lib.extract_data, List.map_take, List.map_drop]
 exact List.take_of_length_le (by rw [List.length_drop, List.length_map, Array.length_toList]; exact Nat.le_refl _)
theorem extract_strN' (s : ByteArray) (a b : Nat) : strN (s.extract a b) = ((strN s).drop a).take (b - a) := by
 unfold strN
 rw [Lib.extract_data, List.map_take, List.map_drop]
theorem Below.next {B : Nat} {w w1 w2 : World} (h : Below B w w1) (hb : Below w1.heap.size w1 w2) (hB : B ≤ w.heap.size) : Below B w w2 :=
 h.trans (hb.mono (Nat.le_trans hB h.size))
theorem Below.step {w w1 w2 : World} (h : Below w.heap.size w w1) (hb : Below w1.heap.size w1 w2) : Below w.heap.size w w2 := Below.next h hb (Nat.le_refl _)
def bV (n : Nat) : Value := .int .u8 (n : Int)
def BRow (w : World) (e : TypeId) (B : Nat) (l : List Nat) : Prop := w.heap[B]? = some (.cells (l.map bV).toArray e (0, 0))
theorem BRow.cell {w : World} {e : TypeId} {B : Nat} {l : List Nat} (h : BRow w e B l) {k : Nat} (hk : k < l.length) : w.cell? ⟨B, k, none⟩ = some (.int .u8 ((l.getD k 0 : Nat) : Int)) := by
 rw [cell_of_row w B k _ e _ h]
 simp [List.getElem?_map, List.getD_eq_getElem?_getD, List.getElem?_eq_getElem hk, bV]
theorem BRow.frozen {w : World} {e : TypeId} {B : Nat} {l : List Nat} (h : BRow w e B l) (k : Nat) : w.frozen? ⟨B, k, none⟩ = false := frozen_of_row w B k _ e h
theorem BRow.drew {w : World} {e : TypeId} {B : Nat} {l : List Nat} (h : BRow w e B l) : BRow w.drew e B l := h
theorem BRow.lt {w : World} {e : TypeId} {B : Nat} {l : List Nat} (h : BRow w e B l) : B < w.heap.size := lt_of_block h
theorem BRow.below {w w' : World} {e : TypeId} {B : Nat} {l : List Nat} (h : BRow w e B l) (hb : Below w.heap.size w w') : BRow w' e B l := (hb.block B h.lt).trans h
theorem BRow.set {w : World} {e : TypeId} {B : Nat} {l : List Nat} (h : BRow w e B l) (k v : Nat) : BRow (w.setCell ⟨B, k, none⟩ (.int .u8 (v : Int))) e B (l.set k v) := by
 have := heap_setCell_same w B k _ e (.int .u8 (v : Int)) h
 unfold BRow
 rw [this]
 simp [List.map_set, bV]
theorem BRow.new (w : World) (e : TypeId) (l : List Nat) : BRow (w.alloc (.cells (l.map bV).toArray e)) e w.heap.size l := heap_alloc_new w _
theorem BRow.bytes {w : World} {e : TypeId} {B : Nat} {l : List Nat} (h : BRow w e B l) (s : ByteArray) (hs : strN s = l) : Lib.Bytes w B 0 s := by
 intro i hi
 subst hs
 have := h.cell (k := i) (by rw [strN_length]; exact hi)
 rw [Nat.zero_add, this, ← strN_getD]
 congr 3
 rw [List.getD_eq_getElem?_getD, List.getElem?_eq_getElem (by rw [Array.length_toList]; exact hi)]
 rfl
def strOf (l : List Nat) : ByteArray := ⟨(l.map UInt8.ofNat).toArray⟩
theorem strN_strOf (l : List Nat) (h : ∀ c ∈ l, c < 256) : strN (strOf l) = l := by
 show ((l.map UInt8.ofNat).toArray.toList.map UInt8.toNat) = l
 rw [List.toList_toArray, List.map_map]
 conv => rhs; rw [← List.map_id l]
 apply List.map_congr_left
 intro c hc
 simp [Function.comp, Nat.mod_eq_of_lt (h c hc)]
theorem strOf_strN (s : ByteArray) : strOf (strN s) = s := by
 show (⟨((s.data.toList.map UInt8.toNat).map UInt8.ofNat).toArray⟩ : ByteArray) = s
 have : (s.data.toList.map UInt8.toNat).map UInt8.ofNat = s.data.toList := by
  rw [List.map_map]
  conv => rhs; rw [← List.map_id s.data.toList]
  apply List.map_congr_left
  intro c _
  simp
 rw [this, Array.toArray_toList]
theorem strOf_size (l : List Nat) : (strOf l).size = l.length := by
 show ((l.map UInt8.ofNat).toArray).size = _
 simp
theorem strN_inj {s t : ByteArray} (h : strN s = strN t) : s = t := by rw [← strOf_strN s, h, strOf_strN]
theorem run_make_bytes {P : Program} (w : World) (t e : TypeId) (ht : P.underlying t = some (.slice e)) (hi : (P.info? e).map (fun i => (i.zero, i.size, i.bytes)) = some (some (.int .u8 0), 1, 1)) (c : Int) (h0 : 0 ≤ c) (hc : c ≤ 281474976710656) :
  (Instr.makeSlice t (.int .i64 c) (.int .i64 c)).run P w = .ok (.slice (some ⟨w.heap.size, 0, none⟩) c.toNat c.toNat) (w.alloc (.cells (Array.replicate c.toNat (bV 0)) e)) := by
 obtain ⟨i, hi, hz, hs, hb⟩ := info_parts hi
 have := run_make (P := P) w t e i (.int .u8 0) ht hi hz .i64 .i64 c c h0 (Int.le_refl _) (by rw [hb]; omega) (by omega)
 rw [this, hs]
 congr 3
 simp only [madeCells, Nat.mul_one]
 apply Array.ext
 ·
  simp
 ·
  intro k h1 h2
  simp [Value.cells, bV, Nat.mod_one]
theorem run_string_of_row {P : Program} (w : World) (src e dst : TypeId) (hs : P.underlying src = some (.slice e)) (he : P.underlying e = some (.int .u8)) (hd : P.underlying dst = some .string) (B : Nat) (l : List Nat) (h : BRow w e B l) (hl : ∀ c ∈ l, c < 256) (cap : Nat) :
  (convert src dst (.slice (some ⟨B, 0, none⟩) l.length cap)).run P w = .ok (.string (strOf l)) w := by
 have := Lib.run_convert_whole (P := P) w src e dst hs he hd B 0 (strOf l) (h.bytes _ (strN_strOf l hl)) cap
 rw [strOf_size] at this
 exact this
end Go.Proofs.YtbfoonfbhebhfaaGreatDoor
namespace Go.Proofs.YtbfoonfbhebhfaaGreatDoor
open Go.RowKit Go.ChangeShapes Go.WideShapes Go.ChangeAt
open Go.ChangeMaps (open_string shut_string)
def sC (s : ByteArray) : List Value := [.string s]
theorem sC_length (s : ByteArray) : (sC s).length = 1 := rfl
theorem sC_one (s : ByteArray) : ∀ u ∈ sC s, u.oneCell' = true := by intro u hu; simp only [sC, List.mem_singleton] at hu; subst hu; rfl
theorem sCs_snoc (l : List ByteArray) (s : ByteArray) : (l ++ [s]).flatMap sC = l.flatMap sC ++ sC s := by simp [List.flatMap_append]
theorem info_str : (Tryz.prog.info? 9).map (fun i => (i.zero, i.size, i.bytes)) = some (some (.string ⟨#[]⟩), 1, 16) := by kernel_rfl
def szV : Value → Nat
 | .string s => s.size
 | _ => 0
theorem own_form' {w : World} {base : Nat} {e : TypeId} {k : Nat} {v : Value} {n : Nat} {xs : List Value} (h : w.ownsRow base e k v n xs) : ∃ a c, v = .slice a n c := by
 rcases h.2 with ⟨hv, h3⟩ | ⟨g, cap, cur, hv, _⟩
 ·
  exact ⟨none, 0, by rw [hv, h3]⟩
 ·
  exact ⟨_, _, hv⟩
theorem own_below' {w w' : World} {base : Nat} {e : TypeId} {k : Nat} {v : Value} {n : Nat} {xs : List Value} (h : w.ownsRow base e k v n xs) (hb : Below w.heap.size w w') : w'.ownsRow base e k v n xs := by
 refine ⟨h.1, ?_⟩
 rcases h.2 with hv | ⟨g, cap, cur, hv, hB, hg, h3⟩
 ·
  exact .inl hv
 ·
  exact .inr ⟨g, cap, cur, hv, hB, (hb.block g (lt_of_block hg)).trans hg, h3⟩
theorem str_cell {w : World} {a : Option Addr} {l : List ByteArray} (h : SAt 1 sC w a l) (k : Nat) (hk : k < l.length) : ∃ g off, a = some ⟨g, off, none⟩ ∧ w.cell? ⟨g, off + k, none⟩ = some (.string l[k]) := by
 obtain ⟨g, off, e, _, hr⟩ := h k hk
 refine ⟨g, off, e, ?_⟩
 have := hr 0 (.string l[k]) rfl
 rwa [Nat.mul_one, Nat.add_zero] at this
end Go.Proofs.YtbfoonfbhebhfaaGreatDoor
namespace Go.Proofs.YtbfoonfbhebhfaaGreatDoor
theorem wraps_i64 (n : Int) (h₀ : 0 ≤ n) (h₁ : n < 2 ^ 63) : IntKind.i64.wrap n = n := by
 rw [IntKind.wrap_i64]; omega
theorem ret_int {k : IntKind} {a b : Int} (h : a = b) : Ending.returned (.int k a) = .returned (.int k b) := by rw [h]
theorem and1_nat (A : Nat) : (A &&& 1) = bif A.testBit 0 then 1 else 0 := by
 rw [Nat.and_one_is_mod, Nat.testBit_zero]
 by_cases h : A % 2 = 1
 ·
  simp [h]
 ·
  have : A % 2 = 0 := by omega
  simp [this]
theorem div_pow_nat (m v : Nat) : ((m : Int) / 2 ^ v) = ((m / 2 ^ v : Nat) : Int) := by simp
theorem testBit_and1 (m v : Nat) : (m / 2 ^ v) &&& 1 = bif m.testBit v then 1 else 0 := by
 rw [and1_nat, ← Nat.shiftRight_eq_div_pow, Nat.testBit_shiftRight]; rfl
theorem bit_u64 (m v : Nat) (h : m < 18446744073709551616) : bits .and .u64 ((m : Int) / 2 ^ v) 1 = ((bif m.testBit v then 1 else 0 : Nat) : Int) := by
 rw [div_pow_nat, ← testBit_and1]
 exact bits_and_u64_nat _ 1 (Nat.lt_of_le_of_lt (Nat.div_le_self _ _) h) (by decide)
theorem shl_u64 (c k : Nat) (h : c <<< k < 18446744073709551616) : IntKind.u64.wrap ((c : Int) * 2 ^ k) = ((c <<< k : Nat) : Int) := by
 rw [IntKind.wrap_u64, Nat.shiftLeft_eq]
 rw [Nat.shiftLeft_eq] at h
 have : ((c : Int) * 2 ^ k) = ((c * 2 ^ k : Nat) : Int) := by simp
 rw [this]
 omega
end Go.Proofs.YtbfoonfbhebhfaaGreatDoor
