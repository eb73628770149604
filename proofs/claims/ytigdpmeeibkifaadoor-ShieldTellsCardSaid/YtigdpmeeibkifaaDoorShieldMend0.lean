/- shield.Mend: what it gathers ahead of the elimination. -/
import Derived.Test.YtigdpmeeibkifaaDoorShieldTwo
import Derived.Test.YtigdpmeeibkifaaDoorShieldCheck
namespace Go.Proofs.YtigdpmeeibkifaaDoor
open Go.RowKit Plain
set_option linter.unusedVariables false
set_option linter.unusedSimpArgs false
/-- number s of those that are there -/
def prs (l : List ShT) (s : Nat) : Nat := (pres l).getD s 0
theorem prs_get {l : List ShT} {s : Nat} (h : s < (pres l).length) : prs l s = (pres l)[s] := by unfold prs; rw [List.getD_eq_getElem?_getD, List.getElem?_eq_getElem h]; rfl
theorem prs_mem {l : List ShT} {s : Nat} (h : s < (pres l).length) : prs l s ∈ pres l := by rw [prs_get h]; exact List.getElem_mem h
theorem prs_lt {l : List ShT} {s : Nat} (h : s < (pres l).length) : prs l s < l.length := presN_lt (prs_mem h)
/-- the texts of the first j that are there -/
def txs (l : List ShT) (j : Nat) : List ByteArray := (List.range j).map fun s => (shG l (prs l s)).2
theorem txs_length (l : List ShT) (j : Nat) : (txs l j).length = j := by simp [txs]
theorem txs_succ (l : List ShT) (j : Nat) : txs l (j + 1) = txs l j ++ [(shG l (prs l j)).2] := by simp [txs, List.range_succ]
theorem txs_size {l : List ShT} {n : Nat} (hP : POk l) (hn : n ≤ (pres l).length) : ∀ s ∈ txs l n, s.size = szS l (first0 l) := by
  intro s hs
  obtain ⟨k, hk, rfl⟩ := List.mem_map.1 hs
  exact (hP _ (prs_mem (Nat.lt_of_lt_of_le (List.mem_range.1 hk) hn))).2
theorem pres_nodup (l : List ShT) : (pres l).Nodup := by
  unfold pres presN
  exact List.nodup_range.filter _
theorem mend_ns {l : List ShT} {n : Nat} (hA : AOk l (n : Int)) (hn : n ≤ (pres l).length) : NS n fun r => rowF n (prs l r) := by
  obtain ⟨a1, a2, a3, a4⟩ := hA
  intro x hx hz
  refine rows_ns (by omega) ((pres l).take n) ((pres_nodup l).sublist (List.take_sublist _ _)) (by rw [List.length_take]; omega) (fun s hs => ?_) x hx (fun s hs => ?_)
  · have := presN_lt (List.mem_of_mem_take hs)
    omega
  · obtain ⟨r, hr, rfl⟩ := List.mem_iff_getElem.1 hs
    rw [List.length_take] at hr
    have := hz r (by omega)
    rw [List.getElem_take]
    simp only at this
    have hrl : r < (pres l).length := by omega
    rwa [prs_get hrl] at this
structure MR (base n j : Nat) (P : Nat → Nat) (T : List ByteArray) (ids : Nat → Nat) (ra : Option Addr) (rc : Nat) (ta : Option Addr) (tc : Nat) (w : World) : Prop where
  ro : w.ownsRow base 34 1 (.slice ra j rc) j ((List.range j).map (rowV ids n))
  to : w.ownsRow base 9 1 (.slice ta T.length tc) T.length (T.flatMap sC)
  rows : ∀ r, r < j → BRow w 5 (ids r) (mapr n (rowF n (P r)))
  lo : ∀ r, r < j → base ≤ ids r
  inj : ∀ r s, r < j → s < j → ids r = ids s → r = s
theorem MR.start (base n : Nat) (P : Nat → Nat) (w : World) : MR base n 0 P [] (fun _ => 0) none 0 none 0 w :=
  ⟨World.ownsRow_nil _ _ _ _, World.ownsRow_nil _ _ _ _, fun r h => by omega, fun r h => by omega, fun r s h => by omega⟩
theorem MR.below {base n j : Nat} {P : Nat → Nat} {T : List ByteArray} {ids : Nat → Nat} {ra ta : Option Addr} {rc tc : Nat} {w w' : World} (h : MR base n j P T ids ra rc ta tc w) (hb : Below w.heap.size w w') : MR base n j P T ids ra rc ta tc w' :=
  ⟨own_below' h.ro hb, own_below' h.to hb, fun r hr => (h.rows r hr).below hb, h.lo, h.inj⟩
theorem MR.addRow {base n j : Nat} {P : Nat → Nat} {T : List ByteArray} {ids : Nat → Nat} {ra ta ra' : Option Addr} {rc tc rc' : Nat} {w w' : World} {B : Nat} (h : MR base n j P T ids ra rc ta tc w)
    (hB : BRow w 5 B (mapr n (rowF n (P j)))) (hnew : ∀ r, r < j → ids r ≠ B) (hlo : base ≤ B)
    (ho : w'.ownsRow base 34 1 (.slice ra' (j + 1) rc') (j + 1) ((List.range j).map (rowV ids n) ++ [.slice (some ⟨B, 0, none⟩) n n])) (hg : w.grownBy w' (Value.slice ra j rc).ownBlock) :
    MR base n (j + 1) P T (fun r => if r = j then B else ids r) ra' rc' ta tc w' := by
  have keepB : ∀ {b : Nat} {L : List Nat}, BRow w 5 b L → BRow w' 5 b L := fun {b L} hb => by
    unfold BRow at hb ⊢
    exact (hg.block b (lt_of_block hb) (own_neqK h.ro hb (by decide))).trans hb
  refine ⟨?_, own_keep h.to fun g cs hcs _ => hg.block g (lt_of_block hcs) (own_neqK h.ro hcs (by decide)), fun r hr => ?_, fun r hr => ?_, fun r s hr hs e => ?_⟩
  · have e : (List.range (j + 1)).map (rowV (fun r => if r = j then B else ids r) n) = (List.range j).map (rowV ids n) ++ [.slice (some ⟨B, 0, none⟩) n n] := by
      rw [List.range_succ, List.map_append]
      congr 1
      · refine List.map_congr_left fun r hr => ?_
        have := List.mem_range.1 hr
        show Value.slice (some ⟨(if r = j then B else ids r), 0, none⟩) n n = Value.slice (some ⟨ids r, 0, none⟩) n n
        rw [if_neg (by omega)]
      · simp [rowV]
    rw [e]
    exact ho
  · by_cases e : r = j
    · simp only [if_pos e]; rw [e]; exact keepB hB
    · simp only [if_neg e]; exact keepB (h.rows r (by omega))
  · by_cases e : r = j
    · simp only [if_pos e]; exact hlo
    · simp only [if_neg e]; exact h.lo r (by omega)
  · by_cases e1 : r = j <;> by_cases e2 : s = j
    · omega
    · simp only [if_pos e1, if_neg e2] at e
      exact absurd e.symm (hnew s (by omega))
    · simp only [if_neg e1, if_pos e2] at e
      exact absurd e (hnew r (by omega))
    · simp only [if_neg e1, if_neg e2] at e
      exact h.inj r s (by omega) (by omega) e
theorem MR.addText {base n j : Nat} {P : Nat → Nat} {T T' : List ByteArray} {ids : Nat → Nat} {ra ta ta' : Option Addr} {rc tc tc' : Nat} {w w' : World} (h : MR base n j P T ids ra rc ta tc w)
    (ho : w'.ownsRow base 9 1 (.slice ta' T'.length tc') T'.length (T'.flatMap sC)) (hg : w.grownBy w' (Value.slice ta T.length tc).ownBlock) : MR base n j P T' ids ra rc ta' tc' w' :=
  ⟨own_keep h.ro fun g cs hcs _ => hg.block g (lt_of_block hcs) (own_neqK h.to hcs (by decide)), ho, fun r hr => by
    have hb := h.rows r hr
    unfold BRow at hb ⊢
    exact (hg.block _ (lt_of_block hb) (own_neqK h.to hb (by decide))).trans hb, h.lo, h.inj⟩
theorem MR.mat {base n : Nat} {P : Nat → Nat} {T : List ByteArray} {ids : Nat → Nat} {ra ta : Option Addr} {rc tc : Nat} {w : World} (h : MR base n n P T ids ra rc ta tc w) (hn : 1 ≤ n) :
    ∃ A, ra = some ⟨A, 0, none⟩ ∧ base ≤ A ∧ Mat w A 0 ids (fun r => rowF n (P r)) n n := by
  rcases h.ro.2 with ⟨e, h0⟩ | ⟨g, cap, cur, hv, hB, hg, hnc, hcm, hcs, ht⟩
  · omega
  · injection hv with e1 _ _
    refine ⟨g, e1, hB, ⟨cur, hg, fun r hr => ?_⟩, h.rows, h.inj⟩
    have h1 : (cur.toList.take (n * 1))[r]? = ((List.range n).map (rowV ids n))[r]? := by rw [ht]
    rw [List.getElem?_take, if_pos (by omega), List.getElem?_map, List.getElem?_range hr] at h1
    rw [Nat.zero_add]
    simpa using h1
theorem info_rowS : (Tryd.prog.info? 34).map (fun i => (i.zero, i.size, i.bytes)) = some (some (.slice none 0 0), 1, 24) := by kernel_rfl
def Mended (l : List ShT) (n : Nat) (N : Mtx) : Prop := BytM N ∧ NS n N ∧ ∀ x, Byt x → ∀ r, r < n → dotN n (N r) (fun s => dotN n (rowF n (prs l s)) x) = x r
/-- the first j parts, mended -/
def outsM (l : List ShT) (n : Nat) (N : Mtx) (j : Nat) : List ByteArray := (List.range j).map fun r => strOf (comb (szS l (first0 l)) n (N r) (txs l n))
theorem outsM_length (l : List ShT) (n : Nat) (N : Mtx) (j : Nat) : (outsM l n N j).length = j := by simp [outsM]
theorem outsM_succ (l : List ShT) (n : Nat) (N : Mtx) (j : Nat) : outsM l n N (j + 1) = outsM l n N j ++ [strOf (comb (szS l (first0 l)) n (N j) (txs l n))] := by simp [outsM, List.range_succ]
def MdEnd (l : List ShT) (m : Int) (w0 : World) (e : Ending) (w : World) : Prop := Below w0.heap.size w0 w ∧
  ((∃ (n : Nat) (oa : Option Addr) (oc : Nat) (N : Mtx), m = (n : Int) ∧ e = .returned (.tuple #[.slice oa n oc, .int .i64 0]) ∧ AOk l m ∧ POk l ∧ n ≤ (pres l).length ∧ Mended l n N ∧ w.ownsRow w0.heap.size 9 1 (.slice oa n oc) n ((outsM l n N n).flatMap sC)) ∨
   (∃ c : Nat, e = .returned (.tuple #[.slice none 0 0, .int .i64 (c : Int)]) ∧ c ≠ 0 ∧ BadC l m c))
theorem badC_ne {l : List ShT} {m : Int} {c : Nat} (h : BadC l m c) : c ≠ 0 := by
  rcases h with ⟨rfl, _⟩ | ⟨rfl | rfl, _⟩ | ⟨rfl, _⟩ <;> decide
end Go.Proofs.YtigdpmeeibkifaaDoor
