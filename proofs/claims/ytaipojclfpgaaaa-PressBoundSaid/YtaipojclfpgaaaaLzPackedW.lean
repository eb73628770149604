/- The walk of LzPacked (printed by gen_lzpacked.py). -/
import Derived.Test.YtaipojclfpgaaaaLzPack
import Derived.Test.YtaipojclfpgaaaaLzRead
import Derived.Test.YtaipojclfpgaaaaLzEq
namespace Go.Proofs.Ytaipojclfpgaaaa
open Go.RowKit Plain
theorem same_str {a b : ByteArray} (h : a = b) : (a.toList == b.toList) = true := by subst h; simp
theorem rd_letters : ∀ (n : Nat) (s : List Nat) (k : Nat), s.length ≤ n → (∀ c ∈ s, c < 256) → ∀ t ∈ (rd k s).2, t.1 < 256
  | 0, s, k, hn, _, t, ht => by rw [rd_nil k s (by omega)] at ht; simp at ht
  | n + 1, s, k, hn, hs, t, ht => by
    by_cases h0 : s.length = 0
    · rw [rd_nil k s h0] at ht; simp at ht
    · by_cases h1 : s.length < tn s
      · rw [rd_short k s h0 h1] at ht; simp at ht
      · by_cases h2 : formed (tk s) = false
        · rw [rd_form k s h0 (by omega) h2] at ht; simp at ht
        · by_cases h3 : k = 4096
          · rw [rd_large k s h0 (by omega) (by simpa using h2) h3] at ht; simp at ht
          · have htn := tn_pos s
            rw [rd_more k s h0 (by omega) (by simpa using h2) h3] at ht
            split at ht
            · rcases List.mem_cons.1 ht with rfl | ht
              · unfold tk
                split
                · exact getD_lt hs 1
                · exact Nat.zero_lt_succ _
              · exact rd_letters n _ _ (by rw [List.length_drop]; omega) (fun c hc => hs c (List.mem_of_mem_drop hc)) t ht
            · simp at ht
theorem strOf_lt_size (l : List Nat) : (strOf l).size = l.length := strOf_size l
end Go.Proofs.Ytaipojclfpgaaaa
