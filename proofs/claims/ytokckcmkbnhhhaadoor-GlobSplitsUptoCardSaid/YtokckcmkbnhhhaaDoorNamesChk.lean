/- What names.Check asks of a name, as a function of its bytes (plain Lean). -/
import Derived.Test.YtokckcmkbnhhhaaDoorNamesPlain
import Derived.Lib.DecodeN
import Derived.Lib.RuneCount
import Derived.Lib.ValidU
namespace Go.Proofs.YtokckcmkbnhhhaaDoor
namespace Plain
open Lib (decodeN)
/-- the runes of a name gone over: how many there are, or none where one is refused -/
def scanN (s : ByteArray) : Nat → Nat → Nat → Option Nat
  | 0, _, n => some n
  | fuel + 1, pos, n => if pos < s.size then (if (Utf8.decode s pos).1 = 47 ∨ (Utf8.decode s pos).1 < 32 ∨ (Utf8.decode s pos).1 = 127 then none else scanN s fuel (pos + (Utf8.decode s pos).2) (n + 1)) else some n
def dotB : ByteArray := ⟨#[46]⟩
def dot2B : ByteArray := ⟨#[46, 46]⟩
def chkB (s : ByteArray) : Int := if s.size = 0 ∨ s = dotB ∨ s = dot2B ∨ Lib.validD s.data.toList = false then 8 else match scanN s s.size 0 0 with
  | none => 8
  | some n => if 24 < n then 2 else 0
def ck (l : T) : Int := chkB ⟨l.toArray⟩
theorem ck_of (s : ByteArray) : ck s.data.toList = chkB s := rfl
theorem decodeN_parts (n b0 b1 b2 b3 : Nat) : (b0 < 128 → decodeN n b0 b1 b2 b3 = (b0, 1)) ∧ (decodeN n b0 b1 b2 b3).2 ≤ 4 ∧ (1 < (decodeN n b0 b1 b2 b3).2 → b1 / 64 = 2) ∧ (2 < (decodeN n b0 b1 b2 b3).2 → b2 / 64 = 2) ∧ (3 < (decodeN n b0 b1 b2 b3).2 → b3 / 64 = 2) := by
  refine ⟨fun h => by unfold decodeN; rw [if_pos h], ?_⟩
  unfold decodeN
  repeat' split
  all_goals simp_all
theorem get_bang (s : ByteArray) (i : Nat) (h : i < s.size) : s.get! i = s.data.toList.getD i 0 := by
  have h' : i < s.data.size := h
  rw [List.getD_eq_getElem?_getD]
  have e1 : s.data.toList[i]? = some (s.data[i]'h') := by simp
  rw [e1]
  show s.data[i]! = s.data[i]
  rw [getElem!_pos s.data i h']
theorem scan_noslash (s : ByteArray) : ∀ (fuel pos n m : Nat), s.size ≤ pos + fuel → scanN s fuel pos n = some m → ∀ i, pos ≤ i → i < s.size → (s.get! i).toNat ≠ 47
  | 0, pos, n, m, hf, _, i, hi, hs => by omega
  | fuel + 1, pos, n, m, hf, h, i, hi, hs => by
    rw [scanN, if_pos (by omega)] at h
    have hw := Lib.decode_width_pos s pos (by omega)
    have hd := Lib.decode_at s pos
    obtain ⟨p0, p1, p2, p3, p4⟩ := decodeN_parts (s.size - pos) (s.get! pos).toNat (s.get! (pos + 1)).toNat (s.get! (pos + 2)).toNat (s.get! (pos + 3)).toNat
    rw [← hd] at p0 p1 p2 p3 p4
    split at h
    · cases h
    · rename_i hne
      by_cases hlt : i < pos + (Utf8.decode s pos).2
      · intro e
        have hcase : i = pos ∨ i = pos + 1 ∨ i = pos + 2 ∨ i = pos + 3 := by omega
        rcases hcase with rfl | rfl | rfl | rfl
        · have := p0 (by omega)
          rw [this] at hne
          exact hne (.inl e)
        · have := p2 (by omega); omega
        · have := p3 (by omega); omega
        · have := p4 (by omega); omega
      · exact scan_noslash s fuel _ (n + 1) m (by omega) h i (by omega) hs
theorem ck_ok : CkOk ck := by
  intro l h
  unfold ck chkB at h
  split at h
  · cases h
  · rename_i hno
    refine ⟨?_, ?_, ?_, ?_⟩
    · split at h
      · cases h
      · rename_i n hn
        intro hm
        obtain ⟨i, hi, he⟩ := List.mem_iff_getElem.1 hm
        have hsz : (⟨l.toArray⟩ : ByteArray).size = l.length := rfl
        have := scan_noslash ⟨l.toArray⟩ _ 0 0 n (by omega) hn i (by omega) (by omega)
        rw [get_bang _ _ (by omega)] at this
        apply this
        show (l.getD i 0).toNat = 47
        rw [List.getD_eq_getElem?_getD, List.getElem?_eq_getElem hi, Option.getD_some, he]; rfl
    · rintro rfl; exact hno (.inl rfl)
    · rintro rfl; exact hno (.inr (.inl rfl))
    · rintro rfl; exact hno (.inr (.inr (.inl rfl)))
end Plain
end Go.Proofs.YtokckcmkbnhhhaaDoor
