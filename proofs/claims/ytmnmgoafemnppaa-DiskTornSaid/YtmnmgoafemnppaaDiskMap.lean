/- A disk in memory: its two maps, its changes; what an operation leaves as it was. -/
import Derived.Test.YtmnmgoafemnppaaDiskPlain
import Derived.Test.YtmnmgoafemnppaaSlices
import Derived.Test.YtmnmgoafemnppaaAppend
import Derived.Test.YtmnmgoafemnppaaAppendSat
import Derived.Test.YtmnmgoafemnppaaMem
import Derived.Test.YtmnmgoafemnppaaRows
import Derived.Maps.StringElems
import Derived.Maps.AppendAt
import Derived.StringKeys
namespace Go.Proofs.Ytmnmgoafemnppaa
open Go.RowKit Plain Go.Maps
set_option linter.unusedVariables false
set_option linter.unusedSimpArgs false
abbrev bT (s : ByteArray) : TB := s.data.toList
abbrev tB (t : TB) : ByteArray := ⟨t.toArray⟩
theorem bT_tB (t : TB) : bT (tB t) = t := by simp [bT, tB]
theorem tB_bT (s : ByteArray) : tB (bT s) = s := by cases s; simp [bT, tB]
theorem bT_length (s : ByteArray) : (bT s).length = s.size := by show s.data.toList.length = _; rw [Array.length_toList]; rfl
theorem tB_size (t : TB) : (tB t).size = t.length := by rw [← bT_length, bT_tB]
theorem bT_inj {a b : ByteArray} (h : bT a = bT b) : a = b := by rw [← tB_bT a, h, tB_bT]
abbrev SM (w : World) (b n : Nat) (D : DM) : Prop := w.ownsMap Try.prog 9 (plainElem Try.prog 9) b n D
theorem law_str : Keyed Try.prog 9 := string_keyed Try.underlying9
theorem zero_str (w : World) : (zeroValue 9).run Try.prog w = .ok (.string ⟨#[]⟩) w := by kernel_rfl
theorem key_str (k : ByteArray) (hk : k.size ≤ maxLen) : keyOf Try.prog 9 (.string k) = some (.string (bT k)) := Go.WideMaps.keyOf_string_mk Try.underlying9 hk
theorem sm_look {w : World} {b n : Nat} {D : DM} (h : SM w b n D) (k : ByteArray) (hk : k.size ≤ maxLen) :
    (Instr.lookup 48 (.map (some b)) (.string k) true).run Try.prog w = .ok (.tuple #[.string (tB ((lookM D (bT k)).getD [])), .bool (lookM D (bT k)).isSome]) w := by
  obtain ⟨v, ps, hrun, hv⟩ := h.look_ok law_str Try.underlying48 (zero_str w) (plainElem_string (H := Unit) Try.underlying9 (s := ⟨#[]⟩) (by decide)) (key_str k hk)
  obtain ⟨s, rfl, hz, _⟩ := plainElem_string_inv Try.underlying9 hv
  rw [hrun]
  have hat : D.atKey (.string (bT k)) (.lit (.string [])) = .lit (.string (bT s)) := by
    have := congrArg Prod.fst hz
    exact this
  by_cases hh : has D (.string (bT k)) = true
  · have hl : lookM D (bT k) = some (bT s) := by
      unfold lookM
      rw [if_pos hh, hat]
    rw [hl, hh]
    simp only [Option.getD_some, Option.isSome_some, tB_bT]
  · have hf : has D (.string (bT k)) = false := by simpa using hh
    have hl : lookM D (bT k) = none := by
      unfold lookM
      rw [if_neg hh]
    rw [atKey_of_not_has hf] at hat
    have hs : bT s = [] := by injection hat with hat; injection hat with hat; exact hat.symm
    rw [hl, hf]
    have : s = tB [] := by rw [← tB_bT s, hs]
    rw [this]
    rfl
theorem sm_has {w : World} {b n : Nat} {D : DM} (h : SM w b n D) (k : TB) (hk : k.length ≤ maxLen) : has D (.string k) = (lookM D k).isSome := by
  have hkb : keyOf Try.prog 9 (.string (tB k)) = some (.string k) := by rw [key_str _ (by rw [tB_size]; exact hk), bT_tB]
  obtain ⟨v, ps, hrun, hv⟩ := h.look_ok law_str Try.underlying48 (zero_str w) (plainElem_string (H := Unit) Try.underlying9 (s := ⟨#[]⟩) (by decide)) hkb
  obtain ⟨s, rfl, hz, _⟩ := plainElem_string_inv Try.underlying9 hv
  have hat : D.atKey (.string k) (.lit (.string [])) = .lit (.string (bT s)) := congrArg Prod.fst hz
  unfold lookM
  by_cases hh : has D (.string k) = true
  · rw [if_pos hh, hat, hh]; rfl
  · rw [if_neg hh]; simpa using hh
theorem SM.of_block {w w' : World} {b n : Nat} {D : DM} (h : SM w b n D) (e : w'.heap[b]? = w.heap[b]?) : SM w' b n D := by
  obtain ⟨es, clock, hb, rest⟩ := h
  exact ⟨es, clock, e.trans hb, rest⟩
/-- how a change is written -/
def chV : Chg → Value
  | .wr n s => .iface 67 (.agg #[.string (tB n), .string (tB s)])
  | .rn a b => .iface 71 (.agg #[.string (tB a), .string (tB b)])
  | .rm n => .iface 73 (.agg #[.string (tB n)])
def chC (c : Chg) : List Value := [chV c]
theorem chC_length (c : Chg) : (chC c).length = 1 := rfl
theorem chC_one (c : Chg) : ∀ u ∈ chC c, u.oneCell' = true := by
  intro u hu
  simp only [chC, List.mem_singleton] at hu
  subst hu
  cases c <;> rfl
/-- rows of other types stay -/
def FrT (w w' : World) : Prop := w.heap.size ≤ w'.heap.size ∧ ∀ (k : Nat) (cs : Array Value) (t : TypeId) (fr : Nat × Nat), w.heap[k]? = some (Obj.cells cs t fr) → t ≠ 51 → t ≠ 56 → w'.heap[k]? = some (Obj.cells cs t fr)
theorem FrT.refl (w : World) : FrT w w := ⟨Nat.le_refl _, fun _ _ _ _ h _ _ => h⟩
theorem FrT.trans {a b c : World} (h : FrT a b) (g : FrT b c) : FrT a c := ⟨Nat.le_trans h.1 g.1, fun k cs t fr h1 h2 h3 => g.2 k cs t fr (h.2 k cs t fr h1 h2 h3) h2 h3⟩
theorem FrT.of_below {w w' : World} (h : Below w.heap.size w w') : FrT w w' := ⟨h.size, fun k cs t fr h1 _ _ => (h.block k (lt_of_block h1)).trans h1⟩
theorem FrT.of_map {w w' : World} {b n : Nat} {D : DM} (h : w.grownBy w' (some b)) (hm : SM w b n D) : FrT w w' := ⟨h.size, fun k cs t fr h1 _ _ => (h.block k (lt_of_block h1) (fun e => by
  injection e with e
  subst e
  obtain ⟨es, clock, hb, _⟩ := hm
  rw [hb] at h1
  injection h1 with h1
  cases h1)).trans h1⟩
theorem FrT.of_cells {w : World} {p : Nat} {cs : Array Value} {t : TypeId} {fr : Nat × Nat} (h : w.heap[p]? = some (Obj.cells cs t fr)) (ht : t = 51 ∨ t = 56) (i : Nat) (v : Value) : FrT w (w.setCell ⟨p, i, none⟩ v) := ⟨by simp, fun k cs' t' fr' h1 h2 h3 => by
  by_cases e : k = p
  · subst e
    rw [h] at h1
    injection h1 with h1
    injection h1 with _ h1
    subst h1
    rcases ht with ht | ht
    · exact absurd ht h2
    · exact absurd ht h3
  · exact (Below.heap_setCell _ _ _ _ e).trans h1⟩
theorem own_fr {w w' : World} {base : Nat} {e : TypeId} {k : Nat} {v : Value} {n : Nat} {xs : List Value} (h : w.ownsRow base e k v n xs) (hf : FrT w w') (h1 : e ≠ 51) (h2 : e ≠ 56) : w'.ownsRow base e k v n xs := by
  refine ⟨h.1, ?_⟩
  rcases h.2 with hv | ⟨g, cap, cur, hv, hB, hg, h3⟩
  · exact .inl hv
  · exact .inr ⟨g, cap, cur, hv, hB, hf.2 g cur e _ hg h1 h2, h3⟩
theorem own_belowD {w w' : World} {base : Nat} {e : TypeId} {k : Nat} {v : Value} {n : Nat} {xs : List Value} (h : w.ownsRow base e k v n xs) (hb : Below w.heap.size w w') : w'.ownsRow base e k v n xs := by
  refine ⟨h.1, ?_⟩
  rcases h.2 with hv | ⟨g, cap, cur, hv, hB, hg, h3⟩
  · exact .inl hv
  · exact .inr ⟨g, cap, cur, hv, hB, (hb.block g (lt_of_block hg)).trans hg, h3⟩
theorem own_mapD {w w' : World} {base b nn : Nat} {D : DM} {e : TypeId} {k : Nat} {v : Value} {n : Nat} {xs : List Value} (h : w.ownsRow base e k v n xs) (hm : SM w b nn D) (hg : w.grownBy w' (some b)) : w'.ownsRow base e k v n xs := by
  refine ⟨h.1, ?_⟩
  rcases h.2 with hv | ⟨g, cap, cur, hv, hB, hg2, h3⟩
  · exact .inl hv
  · refine .inr ⟨g, cap, cur, hv, hB, (hg.block g (lt_of_block hg2) (fun e => ?_)).trans hg2, h3⟩
    injection e with e
    subst e
    obtain ⟨es, clock, hb, _⟩ := hm
    rw [hb] at hg2
    injection hg2 with hg2
    cases hg2
theorem own_neD {w : World} {base : Nat} {t t' : TypeId} {k n g : Nat} {v : Value} {xs : List Value} {cs : Array Value} {fr : Nat × Nat} (h : w.ownsRow base t k v n xs) (hg : w.heap[g]? = some (.cells cs t' fr)) (ht : t ≠ t') : v.ownBlock ≠ some g := by
  rcases h.2 with ⟨rfl, _⟩ | ⟨g', cap, cur, rfl, _, hh, _⟩
  · simp [Value.ownBlock]
  · intro he
    have : g' = g := by simpa [Value.ownBlock] using he
    subst this
    rw [hh] at hg
    injection hg with hg
    injection hg with _ hg
    exact ht hg
theorem own_formD {w : World} {base : Nat} {e : TypeId} {k : Nat} {v : Value} {n : Nat} {xs : List Value} (h : w.ownsRow base e k v n xs) : ∃ a c, v = .slice a n c := by
  rcases h.2 with ⟨hv, h3⟩ | ⟨g, cap, cur, hv, _⟩
  · exact ⟨none, 0, by rw [hv, h3]⟩
  · exact ⟨_, _, hv⟩
theorem row_setD {w : World} {B : Nat} {C : Array Value} {t : TypeId} (h : w.heap[B]? = some (.cells C t (0, 0))) (i : Nat) (v : Value) : (w.setCell ⟨B, i, none⟩ v).heap[B]? = some (.cells (C.setIfInBounds i v) t (0, 0)) := by
  simp [World.setCell, Array.getElem?_modify, h]
/-- the struct's row -/
def DRow (w : World) (p : Nat) (r : Int) (f g : Nat) (ca : Option Addr) (n cc : Nat) (fu : Bool) (lf : Int) : Prop := w.heap[p]? = some (.cells #[.int .i64 r, .map (some f), .map (some g), .slice ca n cc, .bool fu, .int .i64 lf] 51 (0, 0))
theorem drow_cells {w : World} {p : Nat} {r : Int} {f g : Nat} {ca : Option Addr} {n cc : Nat} {fu : Bool} {lf : Int} (h : DRow w p r f g ca n cc fu lf) :
    w.cell? ⟨p, 0, none⟩ = some (.int .i64 r) ∧ w.cell? ⟨p, 1, none⟩ = some (.map (some f)) ∧ w.cell? ⟨p, 2, none⟩ = some (.map (some g)) ∧ w.cell? ⟨p, 3, none⟩ = some (.slice ca n cc) ∧ w.cell? ⟨p, 4, none⟩ = some (.bool fu) ∧ w.cell? ⟨p, 5, none⟩ = some (.int .i64 lf) :=
  ⟨cell_of_row _ _ 0 _ _ _ h, cell_of_row _ _ 1 _ _ _ h, cell_of_row _ _ 2 _ _ _ h, cell_of_row _ _ 3 _ _ _ h, cell_of_row _ _ 4 _ _ _ h, cell_of_row _ _ 5 _ _ _ h⟩
/-- the disk at p -/
def DSX (base p N : Nat) (d : Dst) (w : World) (f g nf ng : Nat) (DF DG : DM) (ca : Option Addr) (cc : Nat) : Prop :=
  DRow w p d.room f g ca d.C.length cc d.fu d.lf ∧ SM w f nf DF ∧ SM w g ng DG ∧ f ≠ g ∧ (base ≤ p ∧ base ≤ f ∧ base ≤ g) ∧ w.ownsRow base 56 1 (.slice ca d.C.length cc) d.C.length (d.C.flatMap chC) ∧ d.F = lookM DF ∧ d.G = lookM DG ∧ (nf ≤ N ∧ ng + d.C.length ≤ N) ∧ ((0 ≤ d.lf ∧ d.lf ≤ 9223372036854775807) ∧ ∀ c ∈ d.C, ChgZ c)
def DS (base p N : Nat) (d : Dst) (w : World) : Prop := ∃ f g nf ng DF DG ca cc, DSX base p N d w f g nf ng DF DG ca cc
theorem DSX.below {base p N : Nat} {d : Dst} {w w' : World} {f g nf ng : Nat} {DF DG : DM} {ca : Option Addr} {cc : Nat} (h : DSX base p N d w f g nf ng DF DG ca cc) (hb : Below w.heap.size w w') : DSX base p N d w' f g nf ng DF DG ca cc := by
  obtain ⟨h1, h2, h3, h4, h5, h6, h7⟩ := h
  exact ⟨(hb.block p (lt_of_block h1)).trans h1, SM.of_block h2 (hb.block f h2.lt), SM.of_block h3 (hb.block g h3.lt), h4, h5, own_belowD h6 hb, h7⟩
theorem DS.below {base p N : Nat} {d : Dst} {w w' : World} (h : DS base p N d w) (hb : Below w.heap.size w w') : DS base p N d w' := by
  obtain ⟨f, g, nf, ng, DF, DG, ca, cc, h⟩ := h
  exact ⟨f, g, nf, ng, DF, DG, ca, cc, h.below hb⟩
theorem DS.mono {base p N N' : Nat} {d : Dst} {w : World} (h : DS base p N d w) (hN : N ≤ N') : DS base p N' d w := by
  obtain ⟨f, g, nf, ng, DF, DG, ca, cc, h1, h2, h3, h4, h5, h6, h7, h8, h9, h10⟩ := h
  exact ⟨f, g, nf, ng, DF, DG, ca, cc, h1, h2, h3, h4, h5, h6, h7, h8, ⟨by omega, by omega⟩, h10⟩
/-- the end of an operation -/
def FR (base : Nat) (w w' : World) : Prop := Below base w w' ∧ FrT w w'
theorem FR.refl (base : Nat) (w : World) : FR base w w := ⟨Below.refl _ _, FrT.refl _⟩
theorem FR.trans {base : Nat} {a b c : World} (h : FR base a b) (g : FR base b c) : FR base a c := ⟨h.1.trans g.1, h.2.trans g.2⟩
theorem FR.of_below {base : Nat} {w w' : World} (h : Below w.heap.size w w') (hb : base ≤ w.heap.size) : FR base w w' := ⟨h.mono hb, .of_below h⟩
theorem DS.base_le {base p N : Nat} {d : Dst} {w : World} (h : DS base p N d w) : base ≤ w.heap.size := by
  obtain ⟨f, g, nf, ng, DF, DG, ca, cc, h1, h2, h3, h4, h5, _⟩ := h
  have := lt_of_block h1
  omega
/-- one cell of the struct's row stored -/
theorem DSX.cell {base p N : Nat} {d : Dst} {w : World} {f g nf ng : Nat} {DF DG : DM} {ca : Option Addr} {cc : Nat} (h : DSX base p N d w f g nf ng DF DG ca cc) (i : Nat) (v : Value) :
    SM (w.setCell ⟨p, i, none⟩ v) f nf DF ∧ SM (w.setCell ⟨p, i, none⟩ v) g ng DG ∧ (w.setCell ⟨p, i, none⟩ v).ownsRow base 56 1 (.slice ca d.C.length cc) d.C.length (d.C.flatMap chC) ∧ FR base w (w.setCell ⟨p, i, none⟩ v) := by
  obtain ⟨h1, h2, h3, h4, h5, h6, h7⟩ := h
  have hpf : f ≠ p := fun e => by
    subst e
    obtain ⟨es, clock, hb, _⟩ := h2
    have h1 : w.heap[f]? = some (Obj.cells _ _ _) := h1
    rw [hb] at h1; injection h1 with h1; cases h1
  have hpg : g ≠ p := fun e => by
    subst e
    obtain ⟨es, clock, hb, _⟩ := h3
    have h1 : w.heap[g]? = some (Obj.cells _ _ _) := h1
    rw [hb] at h1; injection h1 with h1; cases h1
  exact ⟨SM.of_block h2 (Below.heap_setCell _ _ _ _ hpf), SM.of_block h3 (Below.heap_setCell _ _ _ _ hpg), ownsRow_setCell_other h6 (fun e => own_neD h6 h1 (by decide) e) _, (Below.refl base w).setCell (p := ⟨p, i, none⟩) h5.1 v, FrT.of_cells h1 (.inl rfl) i v⟩
end Go.Proofs.Ytmnmgoafemnppaa
