/- Joined: NamesChk, NamesLib, Strs. -/
import Derived.Test.YtpfmfigommmjiaaDoorTpAD
import Derived.Lib.DecodeN
import Derived.Lib.RuneCount
import Derived.Lib.ValidU
import Derived.Lib.SplitLaws
import Derived.Lib.Split
import Derived.Lib.IndexBytes
import Derived.Test.YtpfmfigommmjiaaDoorToAA
import Derived.Test.YtpfmfigommmjiaaDoorRows
namespace Go.Proofs.YtpfmfigommmjiaaDoor
namespace Plain
open Lib (decodeN)
/-- the runes of a name gone over: how many there are, or none where one is refused -/
def scanN (s : ByteArray) : Nat → Nat → Nat → Option Nat
  | 0, _, n => some n
  | fuel + 1, pos, n => if pos < s.size then (if (Utf8.decode s pos).1 = 47 ∨ (Utf8.decode s pos).1 < 32 ∨ (Utf8.decode s pos).1 = 127 then none else scanN s fuel (pos + (Utf8.decode s pos).2) (n + 1)) else some n
def dotB : ByteArray := ⟨#[46]⟩
def dot2B : ByteArray := ⟨#[46, 46]⟩
def chkB (s : ByteArray) : Int := if s.size = 0 ∨ s = dotB ∨ s = dot2B ∨ Lib.validD s.data.toList = false then 8 else match scanN s s.size 0 0 with
  | none => 8
  | some n => if 24 < n then 2 else 0
def ck (l : T) : Int := chkB ⟨l.toArray⟩
theorem ck_of (s : ByteArray) : ck s.data.toList = chkB s := rfl
theorem decodeN_parts (n b0 b1 b2 b3 : Nat) : (b0 < 128 → decodeN n b0 b1 b2 b3 = (b0, 1)) ∧ (decodeN n b0 b1 b2 b3).2 ≤ 4 ∧ (1 < (decodeN n b0 b1 b2 b3).2 → b1 / 64 = 2) ∧ (2 < (decodeN n b0 b1 b2 b3).2 → b2 / 64 = 2) ∧ (3 < (decodeN n b0 b1 b2 b3).2 → b3 / 64 = 2) := by
  refine ⟨fun h => by unfold decodeN; rw [if_pos h], ?_⟩
  unfold decodeN
  repeat' split
  all_goals simp_all
theorem get_bang (s : ByteArray) (i : Nat) (h : i < s.size) : s.get! i = s.data.toList.getD i 0 := by
  have h' : i < s.data.size := h
  rw [List.getD_eq_getElem?_getD]
  have e1 : s.data.toList[i]? = some (s.data[i]'h') := by simp
  rw [e1]
  show s.data[i]! = s.data[i]
  rw [getElem!_pos s.data i h']
theorem scan_noslash (s : ByteArray) : ∀ (fuel pos n m : Nat), s.size ≤ pos + fuel → scanN s fuel pos n = some m → ∀ i, pos ≤ i → i < s.size → (s.get! i).toNat ≠ 47
  | 0, pos, n, m, hf, _, i, hi, hs => by omega
  | fuel + 1, pos, n, m, hf, h, i, hi, hs => by
    rw [scanN, if_pos (by omega)] at h
    have hw := Lib.decode_width_pos s pos (by omega)
    have hd := Lib.decode_at s pos
    obtain ⟨p0, p1, p2, p3, p4⟩ := decodeN_parts (s.size - pos) (s.get! pos).toNat (s.get! (pos + 1)).toNat (s.get! (pos + 2)).toNat (s.get! (pos + 3)).toNat
    rw [← hd] at p0 p1 p2 p3 p4
    split at h
    · cases h
    · rename_i hne
      by_cases hlt : i < pos + (Utf8.decode s pos).2
      · intro e
        have hcase : i = pos ∨ i = pos + 1 ∨ i = pos + 2 ∨ i = pos + 3 := by omega
        rcases hcase with rfl | rfl | rfl | rfl
        · have := p0 (by omega)
          rw [this] at hne
          exact hne (.inl e)
        · have := p2 (by omega); omega
        · have := p3 (by omega); omega
        · have := p4 (by omega); omega
      · exact scan_noslash s fuel _ (n + 1) m (by omega) h i (by omega) hs
theorem ck_ok : CkOk ck := by
  intro l h
  unfold ck chkB at h
  split at h
  · cases h
  · rename_i hno
    refine ⟨?_, ?_, ?_, ?_⟩
    · split at h
      · cases h
      · rename_i n hn
        intro hm
        obtain ⟨i, hi, he⟩ := List.mem_iff_getElem.1 hm
        have hsz : (⟨l.toArray⟩ : ByteArray).size = l.length := rfl
        have := scan_noslash ⟨l.toArray⟩ _ 0 0 n (by omega) hn i (by omega) (by omega)
        rw [get_bang _ _ (by omega)] at this
        apply this
        show (l.getD i 0).toNat = 47
        rw [List.getD_eq_getElem?_getD, List.getElem?_eq_getElem hi, Option.getD_some, he]; rfl
    · rintro rfl; exact hno (.inl rfl)
    · rintro rfl; exact hno (.inr (.inl rfl))
    · rintro rfl; exact hno (.inr (.inr (.inl rfl)))
end Plain
end Go.Proofs.YtpfmfigommmjiaaDoor
namespace Go.Proofs.YtpfmfigommmjiaaDoor
namespace Plain
open Lib (indexByte)
theorem splitK_cons (c : UInt8) (h : c ≠ 47) : ∀ (k : Nat) (l : T), ∃ a t, Lib.splitK [47] 0 k l = a :: t ∧ Lib.splitK [47] 0 k (c :: l) = (c :: a) :: t
  | 0, l => ⟨l, [], rfl, rfl⟩
  | k + 1, l => by
    have hc : (c == 47) = false := by simpa using h
    by_cases hm : Lib.index l [47] = -1
    · have h2 : Lib.index (c :: l) [47] = -1 := by
        rw [Lib.index_one] at *
        rw [indexByte, hc, hm]; rfl
      refine ⟨l, [], ?_, ?_⟩
      · rw [Lib.splitK, hm]; rfl
      · rw [Lib.splitK, h2]; rfl
    · have hge : -1 ≤ Lib.index l [47] := by rw [Lib.index_one]; exact Lib.indexByte_ge l 47
      obtain ⟨i, hi⟩ : ∃ i : Nat, Lib.index l [47] = i := ⟨(Lib.index l [47]).toNat, by omega⟩
      have h2 : Lib.index (c :: l) [47] = ((i + 1 : Nat) : Int) := by
        rw [Lib.index_one] at *
        rw [indexByte, hc, hi]
        have : ((i : Int) == -1) = false := by simp
        simp [this]
      refine ⟨l.take i, Lib.splitK [47] 0 k (l.drop (i + 1)), ?_, ?_⟩
      · rw [Lib.splitK, hi]
        have : ((i : Int) == -1) = false := by simp
        simp [this]
      · rw [Lib.splitK, h2]
        have : (((i + 1 : Nat) : Int) == -1) = false := by simp; omega
        simp only [this, Bool.false_eq_true, if_false, Int.toNat_natCast, Nat.add_zero, List.length_singleton, List.take_succ_cons]
        rfl
theorem splitK_spl : ∀ l : T, Lib.splitK [47] 0 (l.count 47) l = spl l
  | [] => rfl
  | c :: l => by
    by_cases h : c = 47
    · subst h
      rw [List.count_cons_self, Lib.splitK, Lib.index_one]
      have h0 : indexByte (47 :: l) 47 = 0 := by rw [indexByte]; rfl
      rw [h0, spl, if_pos rfl, ← splitK_spl l]
      rfl
    · rw [List.count_cons_of_ne (by simpa using h)]
      obtain ⟨a, t, h1, h2⟩ := splitK_cons c h (l.count 47) l
      have ih := splitK_spl l
      rw [h1] at ih
      rw [h2, spl, if_neg h, ← ih]
def slashB : ByteArray := ⟨#[47]⟩
theorem splitB_spl (s : ByteArray) : (Lib.splitB slashB 0 (Lib.countB s slashB) s).map (·.data.toList) = spl s.data.toList := by
  rw [Lib.splitB_data]
  show Lib.splitK [47] 0 (Lib.count s.data.toList [47]) s.data.toList = _
  rw [Lib.count_one, splitK_spl]
theorem join_jn : ∀ l : List T, Lib.join l [47] = jn l
  | [] => rfl
  | [a] => by rw [Lib.join_one]; rfl
  | a :: b :: l => by
    have ih := join_jn (b :: l)
    rw [Lib.join_cons] at ih ⊢
    rw [jn_cons a (by simp), ← ih]
    simp [Lib.joinTail]
end Plain
end Go.Proofs.YtpfmfigommmjiaaDoor
namespace Go.Proofs.YtpfmfigommmjiaaDoor
open Go.RowKit Go.ChangeShapes Go.WideShapes Go.ChangeAt
open Go.ChangeMaps (open_string shut_string)
def sC (s : ByteArray) : List Value := [.string s]
theorem sC_length (s : ByteArray) : (sC s).length = 1 := rfl
theorem sC_one (s : ByteArray) : ∀ u ∈ sC s, u.oneCell' = true := by intro u hu; simp only [sC, List.mem_singleton] at hu; subst hu; rfl
theorem sCs_snoc (l : List ByteArray) (s : ByteArray) : (l ++ [s]).flatMap sC = l.flatMap sC ++ sC s := by simp [List.flatMap_append]
theorem sCs_length (l : List ByteArray) : (l.flatMap sC).length = l.length := by rw [flat_length sC_length, Nat.mul_one]
theorem info_str : (Tryd.prog.info? 9).map (fun i => (i.zero, i.size, i.bytes)) = some (some (.string ⟨#[]⟩), 1, 16) := by kernel_rfl
theorem cells_str : Tryd.prog.cellsOf 9 = 1 := by kernel_rfl
/-- the size of a string in a slot -/
def szV : Value → Nat
  | .string s => s.size
  | _ => 0
/-- an own slice is of this form -/
theorem own_form' {w : World} {base : Nat} {e : TypeId} {k : Nat} {v : Value} {n : Nat} {xs : List Value} (h : w.ownsRow base e k v n xs) : ∃ a c, v = .slice a n c := by
  rcases h.2 with ⟨hv, h3⟩ | ⟨g, cap, cur, hv, _⟩
  · exact ⟨none, 0, by rw [hv, h3]⟩
  · exact ⟨_, _, hv⟩
theorem own_below' {w w' : World} {base : Nat} {e : TypeId} {k : Nat} {v : Value} {n : Nat} {xs : List Value} (h : w.ownsRow base e k v n xs) (hb : Below w.heap.size w w') : w'.ownsRow base e k v n xs := by
  refine ⟨h.1, ?_⟩
  rcases h.2 with hv | ⟨g, cap, cur, hv, hB, hg, h3⟩
  · exact .inl hv
  · exact .inr ⟨g, cap, cur, hv, hB, (hb.block g (lt_of_block hg)).trans hg, h3⟩
theorem read_str {H : Type} {enc : TypeId × Value → H} {W : World} {base : Nat} {sp : Nat → Bool} {held : Bool} (fuel : Nat) (cs : List Value) (x : DataW H × List MemPlace) (h : DataW.trod enc Tryd.prog W base sp held fuel 9 cs = some x) : ∃ r : ByteArray, cs = sC r ∧ r.size ≤ 9223372036854775807 := by
  obtain ⟨s, rfl, _, hs⟩ := DataW.trod_string Tryd.underlying9 h
  unfold maxLen at hs
  exact ⟨s, rfl, hs⟩
set_option maxRecDepth 100000 in
/-- an argument opened -/
theorem open_strs {H : Type} {enc : TypeId × Value → H} {W : World} {r : Reach} {base b0 : Nat} {sp : Nat → Bool} {held : Bool} {v : Value} {d : DataW H} {p : List MemPlace} (ho : Value.okWide Tryd.prog W r b0 23 v) (hd : DataW.Trod enc Tryd.prog W base sp held 23 v d p) :
    ∃ (a : Option Addr) (l : List ByteArray) (cap : Nat), v = .slice a l.length cap ∧ l.length ≤ cap ∧ cap ≤ 9223372036854775807 ∧ (∀ y ∈ l, y.size ≤ 9223372036854775807) ∧ SAt 1 sC W a l ∧ (l = [] ∨ ∃ elems spare, d = .slice elems spare ∧ elems.length = l.length) :=
  SAt.open_ (n := 1) (c := sC) (fun r : ByteArray => r.size ≤ 9223372036854775807) Tryd.underlying23 cells_str (by decide) sC_length read_str ho hd
/-- the cell of a slice of strings -/
theorem str_cell {w : World} {a : Option Addr} {l : List ByteArray} (h : SAt 1 sC w a l) (k : Nat) (hk : k < l.length) : ∃ g off, a = some ⟨g, off, none⟩ ∧ w.cell? ⟨g, off + k, none⟩ = some (.string l[k]) := by
  obtain ⟨g, off, e, _, hr⟩ := h k hk
  refine ⟨g, off, e, ?_⟩
  have := hr 0 (.string l[k]) rfl
  rwa [Nat.mul_one, Nat.add_zero] at this
end Go.Proofs.YtpfmfigommmjiaaDoor
