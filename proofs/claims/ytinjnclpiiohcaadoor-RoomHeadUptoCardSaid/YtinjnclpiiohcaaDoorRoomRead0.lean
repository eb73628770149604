/- The walk of room.Read. -/
import Derived.Test.YtinjnclpiiohcaaDoorRoomSnap
import Derived.Test.YtinjnclpiiohcaaDoorRoomWrite
import Derived.Test.YtinjnclpiiohcaaDoorRoomReadP
import Derived.Test.YtinjnclpiiohcaaDoorScanW
namespace Go.Proofs.YtinjnclpiiohcaaDoor
open Go.RowKit Plain
set_option linter.unusedVariables false
def pC (n : Nat) : List Value := [.int .i64 (n : Int)]
theorem pC_length (n : Nat) : (pC n).length = 1 := rfl
theorem own_neR {w : World} {base : Nat} {t t' : TypeId} {k : Nat} {v : Value} {n : Nat} {xs : List Value} {B : Nat} {C : Array Value} {fr : Nat × Nat} (h : w.ownsRow base t k v n xs) (hB : w.heap[B]? = some (.cells C t' fr)) (ht : t ≠ t') : v.ownBlock ≠ some B := by
  rcases h.2 with ⟨hv, _⟩ | ⟨g, cap, cur, hv, _, hg, _⟩
  · rw [hv]; intro e; cases e
  · rw [hv]
    intro e
    have e2 : g = B := by injection e
    rw [e2, hB] at hg
    injection hg with hg
    injection hg with _ h2
    exact ht h2.symm
theorem own_grownR {w w' : World} {base base' : Nat} {e e' : TypeId} {k k' n n' : Nat} {v v' : Value} {xs xs' : List Value} (h : w.ownsRow base e k v n xs) (h' : w.ownsRow base' e' k' v' n' xs') (hne : e ≠ e') (hg : w.grownBy w' v'.ownBlock) : w'.ownsRow base e k v n xs := by
  refine ⟨h.1, ?_⟩
  rcases h.2 with hv | ⟨g, cap, cur, hv, hB, hh, h3⟩
  · exact .inl hv
  · exact .inr ⟨g, cap, cur, hv, hB, (hg.block g (lt_of_block hh) (fun e => own_neR h' hh (fun e2 => hne e2.symm) e.symm)).trans hh, h3⟩
/-- what has been read so far: the reader, the head, its rows -/
def LD (w0 w : World) (R HB : Nat) (l : ByteArray) (b : Bool) (nx : Nat) (pa : Option Addr) (pc : Nat) (P : List Nat) (sa : Option Addr) (sc : Nat) (S : List SM) : Prop :=
  RSB w R l b ∧ w.heap[HB]? = some (.cells #[.int .i64 (nx : Int), .slice pa P.length pc, .slice sa S.length sc] 56 (0, 0)) ∧ w.ownsRow w0.heap.size 3 1 (.slice pa P.length pc) P.length (P.flatMap pC) ∧ w.ownsRow w0.heap.size 63 10 (.slice sa S.length sc) S.length (S.flatMap smC) ∧ w.heap[w0.heap.size]? = some (.cells #[.int .i64 0, .slice none 0 0, .slice none 0 0] 56 (0, 0)) ∧ Below w0.heap.size w0 w ∧ (w0.heap.size < R ∧ R < HB)
theorem own_belowR {w w' : World} {base : Nat} {e : TypeId} {k n : Nat} {v : Value} {xs : List Value} (h : w.ownsRow base e k v n xs) (hb : Below w.heap.size w w') : w'.ownsRow base e k v n xs := by
  refine ⟨h.1, ?_⟩
  rcases h.2 with h0 | ⟨g, cap, cur, hv, hg, hh, hr⟩
  · exact .inl h0
  · exact .inr ⟨g, cap, cur, hv, hg, (hb.block g (lt_of_block hh)).trans hh, hr⟩
theorem LD.below {w0 w w' : World} {R HB : Nat} {l : ByteArray} {b : Bool} {nx : Nat} {pa sa : Option Addr} {pc sc : Nat} {P : List Nat} {S : List SM} (h : LD w0 w R HB l b nx pa pc P sa sc S) (hb : Below w.heap.size w w') : LD w0 w' R HB l b nx pa pc P sa sc S := by
  obtain ⟨h1, h2, h3, h4, h5, h6, h7⟩ := h
  exact ⟨h1.below hb, (hb.block _ (lt_of_block h2)).trans h2, own_belowR h3 hb, own_belowR h4 hb, (hb.block _ (lt_of_block h5)).trans h5, h6.trans (hb.mono h6.size), h7⟩
theorem LD.drew {w0 w : World} {R HB : Nat} {l : ByteArray} {b : Bool} {nx : Nat} {pa sa : Option Addr} {pc sc : Nat} {P : List Nat} {S : List SM} (h : LD w0 w R HB l b nx pa pc P sa sc S) : LD w0 w.drew R HB l b nx pa pc P sa sc S := ⟨h.1, h.2.1, h.2.2.1, h.2.2.2.1, h.2.2.2.2.1, h.2.2.2.2.2.1.drew, h.2.2.2.2.2.2⟩
theorem LD.call {w0 w w' : World} {R HB : Nat} {l l' : ByteArray} {b b' : Bool} {nx : Nat} {pa sa : Option Addr} {pc sc : Nat} {P : List Nat} {S : List SM} (h : LD w0 w R HB l b nx pa pc P sa sc S) (hb : BX R w w') (hr : RSB w' R l' b') : LD w0 w' R HB l' b' nx pa pc P sa sc S := by
  obtain ⟨h1, h2, h3, h4, h5, h6, h7⟩ := h
  exact ⟨hr, hb.block (by omega) h2, hb.own h3 (own_neR h3 h1 (by decide)), hb.own h4 (own_neR h4 h1 (by decide)), hb.block (by omega) h5, h6.trans (hb.below (by omega) h6.size), h7⟩
theorem LD.pushP {w0 w w' : World} {R HB : Nat} {l : ByteArray} {b : Bool} {nx : Nat} {pa sa : Option Addr} {pc sc : Nat} {P : List Nat} {S : List SM} (h : LD w0 w R HB l b nx pa pc P sa sc S) (x : Nat) {pa2 : Option Addr} {pc2 : Nat} (hg : w.grownBy w' (Value.slice pa P.length pc).ownBlock) (hn : w'.ownsRow w0.heap.size 3 1 (.slice pa2 (P.length + 1) pc2) (P.length + 1) (P.flatMap pC ++ pC x)) (hb : Below w0.heap.size w0 w') :
    LD w0 (w'.setCell ⟨HB, 1, none⟩ (.slice pa2 (P.length + 1) pc2)) R HB l b nx pa2 pc2 (P ++ [x]) sa sc S := by
  obtain ⟨h1, h2, h3, h4, h5, h6, h7⟩ := h
  have hH : w'.heap[HB]? = _ := (hg.block HB (lt_of_block h2) (fun e => own_neR h3 h2 (by decide) e.symm)).trans h2
  have hR : w'.heap[R]? = _ := (hg.block R (lt_of_block h1) (fun e => own_neR h3 h1 (by decide) e.symm)).trans h1
  have hC : w'.heap[w0.heap.size]? = _ := (hg.block _ (lt_of_block h5) (fun e => own_neR h3 h5 (by decide) e.symm)).trans h5
  have hO : w'.ownsRow w0.heap.size 63 10 (.slice sa S.length sc) S.length (S.flatMap smC) := own_grownR h4 h3 (by decide) hg
  refine ⟨(heap_setCell_other w' ⟨HB, 1, none⟩ R _ (by show R ≠ HB; omega)).trans hR, ?_, ?_, ?_, (heap_setCell_other w' ⟨HB, 1, none⟩ _ _ (by show w0.heap.size ≠ HB; omega)).trans hC, hb.setCell (p := ⟨HB, 1, none⟩) (by show w0.heap.size ≤ HB; omega) _, h7⟩
  · have := rst_set hH 1 (.slice pa2 (P.length + 1) pc2)
    rw [List.length_append]
    simpa using this
  · rw [List.length_append, List.flatMap_append]
    simp only [List.flatMap_cons, List.flatMap_nil, List.append_nil]
    exact ownsRow_setCell_other hn (own_neR hn hH (by decide)) _
  · exact ownsRow_setCell_other hO (own_neR hO hH (by decide)) _
theorem LD.pushS {w0 w w' : World} {R HB : Nat} {l : ByteArray} {b : Bool} {nx : Nat} {pa sa : Option Addr} {pc sc : Nat} {P : List Nat} {S : List SM} (h : LD w0 w R HB l b nx pa pc P sa sc S) (x : SM) {sa2 : Option Addr} {sc2 : Nat} (hg : w.grownBy w' (Value.slice sa S.length sc).ownBlock) (hn : w'.ownsRow w0.heap.size 63 10 (.slice sa2 (S.length + 1) sc2) (S.length + 1) (S.flatMap smC ++ smC x)) (hb : Below w0.heap.size w0 w') :
    LD w0 (w'.setCell ⟨HB, 2, none⟩ (.slice sa2 (S.length + 1) sc2)) R HB l b nx pa pc P sa2 sc2 (S ++ [x]) := by
  obtain ⟨h1, h2, h3, h4, h5, h6, h7⟩ := h
  have hH : w'.heap[HB]? = _ := (hg.block HB (lt_of_block h2) (fun e => own_neR h4 h2 (by decide) e.symm)).trans h2
  have hR : w'.heap[R]? = _ := (hg.block R (lt_of_block h1) (fun e => own_neR h4 h1 (by decide) e.symm)).trans h1
  have hC : w'.heap[w0.heap.size]? = _ := (hg.block _ (lt_of_block h5) (fun e => own_neR h4 h5 (by decide) e.symm)).trans h5
  have hO : w'.ownsRow w0.heap.size 3 1 (.slice pa P.length pc) P.length (P.flatMap pC) := own_grownR h3 h4 (by decide) hg
  refine ⟨(heap_setCell_other w' ⟨HB, 2, none⟩ R _ (by show R ≠ HB; omega)).trans hR, ?_, ?_, ?_, (heap_setCell_other w' ⟨HB, 2, none⟩ _ _ (by show w0.heap.size ≠ HB; omega)).trans hC, hb.setCell (p := ⟨HB, 2, none⟩) (by show w0.heap.size ≤ HB; omega) _, h7⟩
  · have := rst_set hH 2 (.slice sa2 (S.length + 1) sc2)
    rw [List.length_append]
    simpa using this
  · exact ownsRow_setCell_other hO (own_neR hO hH (by decide)) _
  · rw [List.length_append, List.flatMap_append]
    simp only [List.flatMap_cons, List.flatMap_nil, List.append_nil]
    exact ownsRow_setCell_other hn (own_neR hn hH (by decide)) _
theorem LD.h {w0 w : World} {R HB : Nat} {l : ByteArray} {b : Bool} {nx : Nat} {pa sa : Option Addr} {pc sc : Nat} {P : List Nat} {S : List SM} (h : LD w0 w R HB l b nx pa pc P sa sc S) : w.cell? ⟨HB, 0, none⟩ = some (.int .i64 (nx : Int)) ∧ w.cell? ⟨HB, 1, none⟩ = some (.slice pa P.length pc) ∧ w.cell? ⟨HB, 2, none⟩ = some (.slice sa S.length sc) ∧ ∀ i, w.frozen? ⟨HB, i, none⟩ = false := by
  have h2 := h.2.1
  have c0 := cell_of_row w HB 0 _ _ _ h2
  have c1 := cell_of_row w HB 1 _ _ _ h2
  have c2 := cell_of_row w HB 2 _ _ _ h2
  simp only [List.getElem?_toArray, List.getElem?_cons_zero, List.getElem?_cons_succ] at c0 c1 c2
  exact ⟨c0, c1, c2, fun i => frozen_of_row _ _ _ _ _ h2⟩
/-- a snapshot that was read, as it lies in memory -/
theorem sn_mem {x : Sn} {l l' : ByteArray} {b b' : Bool} (hp : (b = false ∧ pSn (strN l) = some (x, strN l') ∧ b' = false) ∨ ((b = true ∨ pSn (strN l) = none) ∧ x = ([], 0, [0, 0, 0, 0, 0, 0, 0, 0]) ∧ b' = true)) :
    ∃ s : SM, snV x = .agg (smC s).toArray ∧ snOf s = x ∧ s.1.size ≤ 1024 ∧ (∀ c ∈ idL s.2.2, c < 256) ∧ 0 ≤ s.2.1 ∧ Prt pSn (strN l) b (snOf s) (strN l') b' := by
  rcases hp with ⟨h1, h2, h3⟩ | ⟨h1, rfl, h3⟩
  · obtain ⟨⟨a1, a2⟩, a3, a4, a5⟩ := pSn_some (strN_lt l) h2
    obtain ⟨nm, tm, rt⟩ := x
    obtain ⟨q, rfl⟩ := eight' a4
    have e : snOf (strOf nm, (tm : Int), q) = (nm, tm, idL q) := by
      show (strN (strOf nm), (tm : Int).toNat, idL q) = _
      rw [strN_strOf nm a2, Int.toNat_natCast]
    exact ⟨(strOf nm, (tm : Int), q), rfl, e, by rw [strOf_size]; exact a1, a5, Int.natCast_nonneg _, .inl ⟨h1, by rw [e]; exact h2, h3⟩⟩
  · exact ⟨(strOf [], (0 : Nat), (0, 0, 0, 0, 0, 0, 0, 0)), rfl, rfl, by decide, by decide, by decide, .inr ⟨h1, h3⟩⟩
end Go.Proofs.YtinjnclpiiohcaaDoor
