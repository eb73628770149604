/- The walks of LzBack and LzLeast. -/
import Derived.Test.YtaipojclfpgaaaaLzExpand
import Derived.Test.YtaipojclfpgaaaaLzGreedyW
namespace Go.Proofs.Ytaipojclfpgaaaa
open Go.RowKit Plain
namespace Plain
theorem ex_lt (most : Nat) : ∀ (n : Nat) (l : List Tok) (o : List Nat), l.length = n → (∀ t ∈ l, t.1 < 256) → ex most l = (0, o) → (∀ c ∈ o, c < 256) ∧ o.length ≤ most
  | 0, l, o, hn, _, h => by
    obtain rfl := List.eq_nil_of_length_eq_zero hn
    rw [ex_nil] at h
    obtain rfl : [] = o := congrArg Prod.snd h
    exact ⟨by simp, by simp⟩
  | n + 1, l, o, hn, hl, h => by
    obtain ⟨m, t, rfl⟩ := snoc_of l (by intro h0; subst h0; cases hn)
    rw [ex_snoc] at h
    have ht := hl t (by simp)
    unfold xs at h
    by_cases h0 : (ex most m).1 ≠ 0
    · rw [if_pos h0] at h; rw [h] at h0; exact absurd rfl h0
    · rw [if_neg h0] at h
      have he : ex most m = (0, (ex most m).2) := by
        have : (ex most m).1 = 0 := by simpa using h0
        rw [← this]
      obtain ⟨ih, ih2⟩ := ex_lt most n m _ (by simpa using hn) (fun x hx => hl x (List.mem_append_left _ hx)) he
      generalize (ex most m).2 = o1 at *
      by_cases h1 : (o1.length : Int) < t.2.2
      · rw [if_pos h1] at h; cases h
      · rw [if_neg h1] at h
        by_cases h2 : (most : Int) < o1.length + max t.2.1 1
        · rw [if_pos h2] at h; cases h
        · rw [if_neg h2] at h
          obtain rfl : put1 t o1 = o := congrArg Prod.snd h
          unfold put1
          split
          · refine ⟨fun c hc => ?_, by rw [List.length_append, List.length_singleton]; omega⟩
            rcases List.mem_append.1 hc with hc | hc
            · exact ih c hc
            · simp only [List.mem_singleton] at hc
              subst hc
              exact ht
          · exact ⟨cp_lt _ _ _ ih, by rw [cp_length]; omega⟩
theorem lchk_gr {s : List Nat} {l : List Tok} (h : Gr s s.length l) (hs : s.length ≤ 4096) : lchk l = 0 := lchk_ok.2 ⟨by have := h.le.2; omega, h.formed⟩
theorem xr_bad {most : Int} {l : List Tok} (h : (xr most l).1 ≠ 0) : (xr most l).2 = [] := by
  unfold xr at h ⊢
  split
  · rfl
  · split
    · rfl
    · rename_i h1 h2
      rw [if_neg h1, if_neg h2] at h
      rcases ex_bad most.toNat l with h3 | h3 | h3
      · exact absurd h3 h
      · rw [h3]
      · rw [h3]
theorem gr_aaaa {l : List Tok} (h : Gr [97, 97, 97, 97] 4 l) : l.length = 2 := by
  have h1 := greedy_least (most := 4096) (l := [(97, 0, 0), (0, 3, 1)]) (t := [97, 97, 97, 97]) (by decide) (by decide) h
  have h2 : l.length ≤ 2 := h1
  have h3 : 2 ≤ l.length := by
    generalize hn : 4 = n at h
    cases h with
    | nil => cases hn
    | @step a L d m hg ha hb =>
      cases hg with
      | nil =>
        obtain ⟨b1, b2, b3, b4, _⟩ := hb
        have := b3 (by omega)
        omega
      | @step a' L' d' m' hg' ha' hb' => simp
  omega
end Plain
theorem expand_any (a : Option Addr) (cap : Nat) (l : List Tok) (most : Int) (w : World) (h : SAt 3 tC w a l) (hl : l.length ≤ 9223372036854775807) (hlt : ∀ t ∈ l, t.1 < 256) : Calls Try.prog 30 #[.slice a l.length cap, .int .i64 most] w (XEnd w (xr most l)) := by
  by_cases h1 : most < 0 ∨ 4096 < most
  · exact expand_arg a cap l most w h1
  · obtain ⟨m, rfl⟩ := Int.eq_ofNat_of_zero_le (show 0 ≤ most by omega)
    by_cases hk : lchk l = 0
    · have e : xr m l = ex m l := by unfold xr; rw [if_neg h1, if_neg (by simpa using hk)]; rfl
      rw [e]
      exact expand_ok a cap l m w (by omega) h hl hlt hk
    · exact expand_chk a cap l m w (by omega) h hl hk
theorem same_str2 {a b : ByteArray} (h : a = b) : (a.toList == b.toList) = true := by subst h; simp
theorem same_str3 {a b : ByteArray} (h : a = b) : (a.toList != b.toList) = false := by subst h; simp
def lC : Array Value := #[.int .u8 97, .int .i64 0, .int .i64 0, .int .u8 0, .int .i64 3, .int .i64 1]
theorem sat_lit (w : World) : SAt 3 tC (w.alloc (.cells lC 60)) (some ⟨w.heap.size, 0, none⟩) [(97, 0, 0), (0, 3, 1)] := by
  intro i hi
  refine ⟨w.heap.size, 0, rfl, by simp, fun j u hu => ?_⟩
  rw [cell_of_row _ _ _ _ _ _ (heap_alloc_new w (.cells lC 60))]
  have hi2 : i < 2 := hi
  have hj : j < 3 := by
    rcases Nat.lt_or_ge j 3 with h | h
    · exact h
    · rw [List.getElem?_eq_none (by rw [tC_length]; exact h)] at hu; cases hu
  rw [← hu]
  match i, hi2, j, hj with
  | 0, _, 0, _ => rfl
  | 0, _, 1, _ => rfl
  | 0, _, 2, _ => rfl
  | 1, _, 0, _ => rfl
  | 1, _, 1, _ => rfl
  | 1, _, 2, _ => rfl
end Go.Proofs.Ytaipojclfpgaaaa
