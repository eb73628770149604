/- Clone of ints; spoil of a slice that is nil or a row; "aab" has three tokens. -/
import Derived.Test.YtaipojclfpgaaaaAmpleIn
import Derived.Test.YtaipojclfpgaaaaGrown
import Derived.Test.YtaipojclfpgaaaaHuffLen
import Derived.Test.YtaipojclfpgaaaaLzBackW
import Derived.Test.YtaipojclfpgaaaaStaysTk
import Derived.Lib.SliceRun
import Derived.Lib.LazyBuf
namespace Go.Proofs.Ytaipojclfpgaaaa
open Go.RowKit Plain
set_option linter.unusedVariables false
set_option linter.unusedSimpArgs false
namespace Plain
theorem gr_aab {a : Nat} {l : List Tok} (h : Gr [97, 97, 98] a l) : l.length = a := by
  induction h with
  | nil => rfl
  | @step a L d l hg ha hb ih =>
    obtain ⟨b1, b2, b3, _, _⟩ := hb
    simp only [List.length_cons, List.length_nil] at b2
    rw [List.length_append, List.length_singleton, ih]
    by_cases h2 : 2 ≤ L
    · obtain ⟨c1, c2, c3, c4⟩ := b3 (by omega)
      have ha1 : a = 1 := by omega
      have hd1 : d = 1 := by omega
      subst ha1 hd1
      have := c4 1 (by omega)
      simp at this
    · omega
theorem rd_len (s : List Nat) (hs : ∀ c ∈ s, c < 256) : (rd 0 s).2.length ≤ 4096 := by
  by_cases h : (rd 0 s).1 = 0
  · have := (pk_rd s.length s 0 (Nat.le_refl _) (by omega) hs h).2.1
    omega
  · rw [(rd_err 0 s h).1]; simp
end Plain
def CloneIEnd (w0 : World) (l : List Int) (e : Ending) (w : World) : Prop := Below w0.heap.size w0 w ∧ ∃ a c, e = .returned (.slice a l.length c) ∧ w.ownsRow w0.heap.size 3 1 (.slice a l.length c) l.length (l.flatMap iC)
set_option maxRecDepth 100000 in
theorem cloneIn_any (a : Option Addr) (cap : Nat) (l : List Int) (w : World) (h : SAt 1 iC w a l) (hl : l.length * 8 ≤ 140737488355328) :
    Calls Try.prog 36 #[.slice a l.length cap] w (CloneIEnd w l) := by
  obtain ⟨i0, hi0, hz0, hz1, hz2⟩ := info_parts info_int
  cases a with
  | none =>
    have hn : l = [] := by
      cases l with
      | nil => rfl
      | cons y l => obtain ⟨g, off, e, _⟩ := h 0 (by simp); cases e
    subst hn
    clear h hl
    have hq := fun u : World => run_eql_slice_nil (P := Try.prog) u 22 3 none 0 cap Try.underlying22
    go_enter Try.func36, Try.ntmps36
    go_wp2_with fail
    go_ret
    exact ⟨Below.refl _ _, none, 0, rfl, World.ownsRow_nil _ _ _ _⟩
  | some ad =>
    have HB1 := Lib.hid ((Below.refl w.heap.size w).alloc (Nat.le_refl _) (.cells #[] 3))
    have HS := Lib.hid (h.below HB1.out)
    have HOWN := Lib.hid (owns_empty w w.heap.size 3 1 (Nat.le_refl _))
    have D3 : Hid (0 + l.length ≤ maxLen) := by show _ ≤ _; unfold maxLen; omega
    have D4 : Hid ((0 + l.length) * 8 ≤ 140737488355328) := by show _ ≤ _; omega
    have D5 : Hid (w.heap.size ≤ (w.alloc (.cells #[] 3)).heap.size) := HB1.out.size
    clear h hl
    have hq := fun u : World => run_eql_slice_nil (P := Try.prog) u 22 3 (some ad) l.length cap Try.underlying22
    go_enter Try.func36, Try.ntmps36
    go_wp2_with (at_builtin; refine wpList_append_sat rfl _ _ 22 rfl w.heap.size 3 i0 (.int .i64 0) 1 8 Try.underlying22 hi0 hz0 hz1 hz2 rfl (by decide) (.slice (some ⟨w.heap.size, 0, none⟩) 0 0) 0 [] rfl HOWN.out (some ad) cap l rfl HS.out iC_length iC_one D3.out D4.out D5.out ?_)
    intro v' w2 hown' hgrow
    have BW := Lib.hid (below_own HB1.out hgrow HB1.out.size HOWN.out (Nat.le_refl _))
    obtain ⟨oa3, oc3, rfl⟩ := own_formK hown'
    have OW := Lib.hid hown'
    clear hown' hgrow
    go_wp2_with fail
    go_ret
    exact ⟨BW.out, oa3, oc3, rfl, OW.out⟩

/-- what Lengths left: nil, or a row of its own -/
def WR (B : Nat) (am aw : Option Addr) (n : Nat) (w : World) : Prop := (aw = none ∧ n = 0) ∨ ∃ (g : Nat) (cs : Array Value), aw = some ⟨g, 0, none⟩ ∧ B ≤ g ∧ w.heap[g]? = some (.cells cs 3 (0, 0)) ∧ cs.size = n ∧ n ≤ 256 ∧ (∀ ad, am = some ad → ad.block ≠ g)
theorem WR.below {B n : Nat} {am aw : Option Addr} {w w' : World} (h : WR B am aw n w) (hb : Below w.heap.size w w') : WR B am aw n w' := by
  rcases h with h | ⟨g, cs, h1, h2, h3, h4⟩
  · exact .inl h
  · exact .inr ⟨g, cs, h1, h2, (hb.block _ (lt_of_block h3)).trans h3, h4⟩
theorem WR.grown {B n g0 : Nat} {am aw : Option Addr} {w w' : World} (h : WR B am aw n w) (hg : w.grownBy w' (some g0)) (hl : g0 < B) : WR B am aw n w' := by
  rcases h with h | ⟨g, cs, h1, h2, h3, h4⟩
  · exact .inl h
  · exact .inr ⟨g, cs, h1, h2, (hg.block _ (lt_of_block h3) (fun e => by injection e with e; omega)).trans h3, h4⟩
set_option maxRecDepth 100000 in
set_option maxHeartbeats 1000000 in
theorem spoilIn_nil (x : Int) (w : World) :
    Calls Try.prog 38 #[.slice none 0 0, .int .i64 x] w (fun e w' => e = .returned (.tuple #[]) ∧ Below w.heap.size w w') := by
  go_enter Try.func38, Try.ntmps38
  go_wp2_with fail
  go_loopw [11] (fun iv wr => iv = .int .i64 0 ∧ Below w.heap.size w wr) (fun _ _ => 0)
  case atStart => exact ⟨rfl, Below.refl _ _⟩
  case round =>
    obtain ⟨rfl, hg⟩ := hrel
    have HG := Lib.hid hg
    clear hg
    go_wp2_with fail
    go_end0
    exact ⟨rfl, HG.out⟩
theorem satN_row {w : World} {g : Nat} {t : TypeId} {cs : List Nat} (h : w.heap[g]? = some (.cells (nC cs) t (0, 0))) : SAt 1 iC w (some ⟨g, 0, none⟩) (cs.map fun n : Nat => (n : Int)) := by
  intro i hi
  have hi' : i < cs.length := by simpa using hi
  refine ⟨g, 0, rfl, lt_of_block h, fun j u hu => ?_⟩
  have hj : j = 0 := by
    rcases Nat.lt_or_ge j 1 with h | h
    · omega
    · rw [List.getElem?_eq_none (by rw [iC_length]; exact h)] at hu; cases hu
  subst hj
  rw [Nat.zero_add, Nat.mul_one, Nat.add_zero, cell_of_row _ _ _ _ _ _ h, nC_get cs i hi', ← hu]
  simp [iC, List.getD_eq_getElem?_getD, List.getElem?_eq_getElem hi']
end Go.Proofs.Ytaipojclfpgaaaa
