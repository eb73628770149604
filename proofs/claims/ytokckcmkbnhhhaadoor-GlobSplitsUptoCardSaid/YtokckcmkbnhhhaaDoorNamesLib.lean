/- The library's split and join at a slash are the plain ones. -/
import Derived.Test.YtokckcmkbnhhhaaDoorNamesPlain
import Derived.Lib.SplitLaws
import Derived.Lib.Split
import Derived.Lib.IndexBytes
namespace Go.Proofs.YtokckcmkbnhhhaaDoor
namespace Plain
open Lib (indexByte)
theorem splitK_cons (c : UInt8) (h : c ≠ 47) : ∀ (k : Nat) (l : T), ∃ a t, Lib.splitK [47] 0 k l = a :: t ∧ Lib.splitK [47] 0 k (c :: l) = (c :: a) :: t
  | 0, l => ⟨l, [], rfl, rfl⟩
  | k + 1, l => by
    have hc : (c == 47) = false := by simpa using h
    by_cases hm : Lib.index l [47] = -1
    · have h2 : Lib.index (c :: l) [47] = -1 := by
        rw [Lib.index_one] at *
        rw [indexByte, hc, hm]; rfl
      refine ⟨l, [], ?_, ?_⟩
      · rw [Lib.splitK, hm]; rfl
      · rw [Lib.splitK, h2]; rfl
    · have hge : -1 ≤ Lib.index l [47] := by rw [Lib.index_one]; exact Lib.indexByte_ge l 47
      obtain ⟨i, hi⟩ : ∃ i : Nat, Lib.index l [47] = i := ⟨(Lib.index l [47]).toNat, by omega⟩
      have h2 : Lib.index (c :: l) [47] = ((i + 1 : Nat) : Int) := by
        rw [Lib.index_one] at *
        rw [indexByte, hc, hi]
        have : ((i : Int) == -1) = false := by simp
        simp [this]
      refine ⟨l.take i, Lib.splitK [47] 0 k (l.drop (i + 1)), ?_, ?_⟩
      · rw [Lib.splitK, hi]
        have : ((i : Int) == -1) = false := by simp
        simp [this]
      · rw [Lib.splitK, h2]
        have : (((i + 1 : Nat) : Int) == -1) = false := by simp; omega
        simp only [this, Bool.false_eq_true, if_false, Int.toNat_natCast, Nat.add_zero, List.length_singleton, List.take_succ_cons]
        rfl
theorem splitK_spl : ∀ l : T, Lib.splitK [47] 0 (l.count 47) l = spl l
  | [] => rfl
  | c :: l => by
    by_cases h : c = 47
    · subst h
      rw [List.count_cons_self, Lib.splitK, Lib.index_one]
      have h0 : indexByte (47 :: l) 47 = 0 := by rw [indexByte]; rfl
      rw [h0, spl, if_pos rfl, ← splitK_spl l]
      rfl
    · rw [List.count_cons_of_ne (by simpa using h)]
      obtain ⟨a, t, h1, h2⟩ := splitK_cons c h (l.count 47) l
      have ih := splitK_spl l
      rw [h1] at ih
      rw [h2, spl, if_neg h, ← ih]
def slashB : ByteArray := ⟨#[47]⟩
theorem splitB_spl (s : ByteArray) : (Lib.splitB slashB 0 (Lib.countB s slashB) s).map (·.data.toList) = spl s.data.toList := by
  rw [Lib.splitB_data]
  show Lib.splitK [47] 0 (Lib.count s.data.toList [47]) s.data.toList = _
  rw [Lib.count_one, splitK_spl]
theorem join_jn : ∀ l : List T, Lib.join l [47] = jn l
  | [] => rfl
  | [a] => by rw [Lib.join_one]; rfl
  | a :: b :: l => by
    have ih := join_jn (b :: l)
    rw [Lib.join_cons] at ih ⊢
    rw [jn_cons a (by simp), ← ih]
    simp [Lib.joinTail]
end Plain
end Go.Proofs.YtokckcmkbnhhhaaDoor
