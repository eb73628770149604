/- The plain laws of FetchTold: bytes in pieces of 1024, joined again; records of a beginning. -/
import Derived.Test.YtpfmfigommmjiaaDoorJournalPlain
namespace Go.Proofs.YtpfmfigommmjiaaDoor
set_option linter.unusedVariables false
set_option linter.unusedSimpArgs false
namespace Plain
/-- the piece number i -/
def pcT (T : List Nat) (i : Nat) : List Nat := (T.drop (1024 * i)).take 1024
/-- how many pieces -/
def nPc (T : List Nat) : Nat := (T.length + 1023) / 1024
def pcsT (T : List Nat) : List (List Nat) := (List.range (nPc T)).map (pcT T)
theorem pcs_len (T : List Nat) : (pcsT T).length = nPc T := by simp [pcsT]
theorem pcs_flat (T : List Nat) : ∀ k, ((List.range k).map (pcT T)).flatten = T.take (1024 * k)
  | 0 => by simp
  | k + 1 => by
    rw [List.range_succ, List.map_append, List.flatten_append, pcs_flat T k, Nat.mul_succ, List.take_add]
    simp [pcT]
theorem pcs_take (T : List Nat) {k : Nat} (hk : k ≤ nPc T) : ((pcsT T).take k).flatten = T.take (1024 * k) := by
  unfold pcsT
  rw [← List.map_take, List.take_range, Nat.min_eq_left hk]
  exact pcs_flat T k
theorem pcs_all (T : List Nat) : (pcsT T).flatten = T := by
  unfold pcsT
  rw [pcs_flat T (nPc T)]
  exact List.take_of_length_le (by unfold nPc; omega)
theorem pc_len (T : List Nat) (i : Nat) (hi : i < nPc T) : 0 < (pcT T i).length ∧ (pcT T i).length ≤ 1024 ∧ (i + 1 < nPc T → (pcT T i).length = 1024) := by
  unfold nPc at hi
  unfold pcT nPc
  rw [List.length_take, List.length_drop]
  omega
/-- records that are read of a beginning are a beginning of the records -/
theorem told_front {idf : List Nat → List Nat} (hid : ∀ l, (idf l).length = 8) {l : List (List Nat)} {T : List Nat} (h : Frms idf l T) (c : Nat) {m : List (List Nat)} {k : Nat} (hs : Scan idf (T.take c) m k) : m = l.take m.length ∧ m.length ≤ l.length ∧ (T.length ≤ c → m = l ∧ k = T.length) := by
  rcases Nat.lt_or_ge c T.length with h1 | h1
  · obtain ⟨m2, r, k2, e, h2, h3, _, h5, _⟩ := h.torn hid c (by omega)
    obtain ⟨rfl, rfl⟩ := hs.unique h2
    refine ⟨by rw [e, List.take_left], by rw [e, List.length_append]; omega, fun h4 => by omega⟩
  · rw [List.take_of_length_le h1] at hs
    obtain ⟨rfl, rfl⟩ := hs.unique (h.all hid)
    exact ⟨by rw [List.take_length], Nat.le_refl _, fun _ => ⟨rfl, rfl⟩⟩
end Plain
end Go.Proofs.YtpfmfigommmjiaaDoor
