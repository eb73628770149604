/- Runes, spans, elements and parts in memory; the reader of a pattern's part. -/
import Derived.Test.YtokckcmkbnhhhaaDoorGlobPlain
import Derived.Test.YtokckcmkbnhhhaaDoorSlices
import Derived.Test.YtokckcmkbnhhhaaDoorAppend
import Derived.Test.YtokckcmkbnhhhaaDoorAppendSat
import Derived.Test.YtokckcmkbnhhhaaDoorMem
import Derived.Test.YtokckcmkbnhhhaaDoorRows
import Derived.Laws.IdiomStrings
namespace Go.Proofs.YtokckcmkbnhhhaaDoor
open Go.RowKit Plain
set_option linter.unusedVariables false
set_option linter.unusedSimpArgs false
/-- every block but R is as it was -/
def BX (R : Nat) (w w' : World) : Prop := Below 0 w w' ∧ ∀ k, k < w.heap.size → k ≠ R → w'.heap[k]? = w.heap[k]?
theorem BX.refl (R : Nat) (w : World) : BX R w w := ⟨Below.refl _ _, fun _ _ _ => rfl⟩
theorem BX.trans {R : Nat} {a b c : World} (h : BX R a b) (g : BX R b c) : BX R a c := ⟨h.1.trans g.1, fun k hk hne => (g.2 k (Nat.lt_of_lt_of_le hk h.1.size) hne).trans (h.2 k hk hne)⟩
theorem BX.of_below {R : Nat} {w w' : World} (h : Below w.heap.size w w') : BX R w w' := ⟨⟨h.os, h.tape, h.output, h.size, fun _ hk => absurd hk (Nat.not_lt_zero _)⟩, fun k hk _ => h.block k hk⟩
theorem BX.step {R : Nat} {a b c : World} (h : BX R a b) (g : Below b.heap.size b c) : BX R a c := h.trans (.of_below g)
theorem BX.alloc {R : Nat} {a b : World} (h : BX R a b) (o : Obj) : BX R a (b.alloc o) := h.step ((Below.refl _ _).alloc (Nat.le_refl _) o)
theorem BX.drew {R : Nat} {a b : World} (h : BX R a b) : BX R a b.drew := ⟨h.1.drew, h.2⟩
theorem BX.set {R : Nat} {a b : World} (h : BX R a b) (i : Nat) (v : Value) : BX R a (b.setCell ⟨R, i, none⟩ v) :=
  h.trans ⟨(Below.refl 0 b).setCell (p := ⟨R, i, none⟩) (Nat.zero_le _) v, fun _ _ hne => Below.heap_setCell _ _ _ _ hne⟩
theorem BX.below {R B : Nat} {w w' : World} (h : BX R w w') (hR : B ≤ R) (hw : B ≤ w.heap.size) : Below B w w' := ⟨h.1.os, h.1.tape, h.1.output, h.1.size, fun k hk => h.2 k (by omega) (by omega)⟩
theorem BX.own {R : Nat} {w w' : World} (h : BX R w w') {base : Nat} {e : TypeId} {k : Nat} {v : Value} {n : Nat} {xs : List Value} (ho : w.ownsRow base e k v n xs) (hR : v.ownBlock ≠ some R) : w'.ownsRow base e k v n xs := by
  refine ⟨ho.1, ?_⟩
  rcases ho.2 with hv | ⟨g, cap, cur, hv, hB, hg, h3⟩
  · exact .inl hv
  · refine .inr ⟨g, cap, cur, hv, hB, (h.2 g (lt_of_block hg) (fun e => hR ?_)).trans hg, h3⟩
    rw [hv, e]
    rfl
theorem BX.block {R : Nat} {w w' : World} (h : BX R w w') {k : Nat} (hne : k ≠ R) {o : Obj} (ho : w.heap[k]? = some o) : w'.heap[k]? = some o := (h.2 k (lt_of_block ho) hne).trans ho
theorem bx_set {R : Nat} {a b : World} {N : Nat} (h : BX R a b) (hN : a.heap.size ≤ N) (i : Nat) (v : Value) : BX R a (b.setCell ⟨N, i, none⟩ v) :=
  ⟨h.1.setCell (p := ⟨N, i, none⟩) (Nat.zero_le _) v, fun k hk hne => (Below.heap_setCell _ _ _ _ (by show k ≠ N; omega)).trans (h.2 k hk hne)⟩
theorem bx_grown {R : Nat} {a b c : World} {x : Option Nat} (h : BX R a b) (hg : b.grownBy c x) (hx : ∀ k, x = some k → a.heap.size ≤ k) : BX R a c :=
  ⟨h.1.grown hg (Nat.zero_le _) (fun _ _ => Nat.zero_le _), fun k hk hne => (hg.block k (Nat.lt_of_lt_of_le hk h.1.size) (fun e => by have := hx k e.symm; omega)).trans (h.2 k hk hne)⟩
theorem row_set {w : World} {B : Nat} {C : Array Value} {t : TypeId} (h : w.heap[B]? = some (.cells C t (0, 0))) (i : Nat) (v : Value) : (w.setCell ⟨B, i, none⟩ v).heap[B]? = some (.cells (C.setIfInBounds i v) t (0, 0)) := by
  simp [World.setCell, Array.getElem?_modify, h]
theorem own_neG {w : World} {base : Nat} {t t' : TypeId} {k n g : Nat} {v : Value} {xs : List Value} {cs : Array Value} {fr : Nat × Nat} (h : w.ownsRow base t k v n xs) (hg : w.heap[g]? = some (.cells cs t' fr)) (ht : t ≠ t') : v.ownBlock ≠ some g := by
  rcases h.2 with ⟨rfl, _⟩ | ⟨g', cap, cur, rfl, _, hh, _⟩
  · simp [Value.ownBlock]
  · intro he
    have : g' = g := by simpa [Value.ownBlock] using he
    subst this
    rw [hh] at hg
    injection hg with hg
    injection hg with _ hg
    exact ht hg
theorem own_lowG {w : World} {base b2 : Nat} {e : TypeId} {k : Nat} {v : Value} {n : Nat} {xs : List Value} (h : w.ownsRow base e k v n xs) (hb : b2 ≤ base) : w.ownsRow b2 e k v n xs := by
  refine ⟨h.1, ?_⟩
  rcases h.2 with h | ⟨g, cap, cur, hv, hB, hg⟩
  · exact .inl h
  · exact .inr ⟨g, cap, cur, hv, by omega, hg⟩
theorem own_grownG {w w' : World} {base b2 : Nat} {t t' : TypeId} {k k' : Nat} {v v' : Value} {n n' : Nat} {xs xs' : List Value} (h : w.ownsRow base t k v n xs) (h2 : w.ownsRow b2 t' k' v' n' xs') (ht : t ≠ t') (hg : w.grownBy w' v'.ownBlock) : w'.ownsRow base t k v n xs := by
  refine ⟨h.1, ?_⟩
  rcases h.2 with hv | ⟨g, cap, cur, hv, hB, hh, h3⟩
  · exact .inl hv
  · exact .inr ⟨g, cap, cur, hv, hB, (hg.block g (lt_of_block hh) (fun e => own_neG h2 hh (fun e => ht e.symm) e.symm)).trans hh, h3⟩
theorem own_belowG {w w' : World} {base : Nat} {e : TypeId} {k : Nat} {v : Value} {n : Nat} {xs : List Value} (h : w.ownsRow base e k v n xs) (hb : Below w.heap.size w w') : w'.ownsRow base e k v n xs := by
  refine ⟨h.1, ?_⟩
  rcases h.2 with hv | ⟨g, cap, cur, hv, hB, hg, h3⟩
  · exact .inl hv
  · exact .inr ⟨g, cap, cur, hv, hB, (hb.block g (lt_of_block hg)).trans hg, h3⟩
theorem own_formG {w : World} {base : Nat} {e : TypeId} {k : Nat} {v : Value} {n : Nat} {xs : List Value} (h : w.ownsRow base e k v n xs) : ∃ a c, v = .slice a n c := by
  rcases h.2 with ⟨hv, h3⟩ | ⟨g, cap, cur, hv, _⟩
  · exact ⟨none, 0, by rw [hv, h3]⟩
  · exact ⟨_, _, hv⟩
theorem own_newG {w : World} {base g n : Nat} {t : TypeId} {k : Nat} {cs : Array Value} (h : w.heap[g]? = some (.cells cs t (0, 0))) (hb : base ≤ g) (hl : n ≤ maxLen) (hs : cs.size = n * k) : w.ownsRow base t k (.slice (some ⟨g, 0, none⟩) n n) n cs.toList :=
  ⟨by rw [Array.length_toList]; exact hs, .inr ⟨g, n, cs, rfl, hb, h, Nat.le_refl _, hl, hs, List.take_of_length_le (by rw [Array.length_toList]; omega)⟩⟩
/-- an owned row read as a list -/
theorem own_satG {α : Type} {c : α → List Value} {w : World} {base k : Nat} {a : Option Addr} {cc : Nat} {l : List α} {T : TypeId} (hc : ∀ y, (c y).length = k) (h : w.ownsRow base T k (.slice a l.length cc) l.length (l.flatMap c)) : SAt k c w a l ∧ l.length ≤ cc ∧ cc ≤ maxLen ∧ ∀ p, a = some p → base ≤ p.block := by
  obtain ⟨a', c', e, h1, h2, hs⟩ := SAt.own h hc
  injection e with e1 _ e3
  subst e1
  subst e3
  refine ⟨hs, h1, by unfold maxLen; exact h2, fun p hp => ?_⟩
  rcases h.2 with ⟨hv, _⟩ | ⟨g, cap, cur, hv, hB, _⟩
  · injection hv with hv; rw [hv] at hp; cases hp
  · injection hv with hv; rw [hv] at hp; injection hp with hp; subst hp; exact hB
/-- the runes of a string -/
def rnC (c : Nat) : List Value := [.int .i32 (c : Int)]
theorem rnC_length (c : Nat) : (rnC c).length = 1 := rfl
theorem runes_eq (s : ByteArray) : ∀ (n i : Nat) (acc : Array Value), Conv.runesFrom s n i acc = acc ++ ((rnL s n i).map fun c : Nat => Value.int .i32 (c : Int)).toArray
  | 0, _, acc => by simp [Conv.runesFrom, rnL]
  | n + 1, i, acc => by
    rw [Conv.runesFrom, rnL]
    split
    · show Conv.runesFrom s n (i + (Utf8.decode s i).2) (acc.push (.int .i32 (Int.ofNat (Utf8.decode s i).1))) = _
      rw [runes_eq s n _ _]
      simp
    · simp
theorem runes_arr (s : ByteArray) : Conv.runesFrom s s.size 0 #[] = ((runes s).map fun c : Nat => Value.int .i32 (c : Int)).toArray := by rw [runes_eq]; simp [runes]
theorem rnL_le (s : ByteArray) : ∀ n i, (rnL s n i).length ≤ n
  | 0, _ => by simp [rnL]
  | n + 1, i => by
    rw [rnL]; split
    · have := rnL_le s n (i + (Utf8.decode s i).2); simp; omega
    · simp
theorem runes_le (s : ByteArray) : (runes s).length ≤ s.size := rnL_le s s.size 0
/-- the world behind '[]rune(s)' -/
def rnW (w : World) (s : ByteArray) (e : TypeId) : World := w.drew.alloc (.cells (((runes s).map fun c : Nat => Value.int .i32 (c : Int)).toArray ++ Array.replicate (grownCap w (runes s).length 0 e - (runes s).length) (.int .i32 0)) e)
theorem run_runes {P : Program} (w : World) (src dst e : TypeId) (s : ByteArray) (hs : P.underlying src = some .string) (hd : P.underlying dst = some (.slice e)) (he : P.underlying e = some (.int .i32)) (h : s.size ≤ 70368744177664) :
    (convert src dst (.string s)).run P w = .ok (.slice (some ⟨w.heap.size, 0, none⟩) (runes s).length (grownCap w (runes s).length 0 e)) (rnW w s e) := by
  have hl : (Conv.runesFrom s s.size 0 #[]).size = (runes s).length := by rw [runes_arr]; simp
  have hr := run_runes_of_string (P := P) w src dst e s hs hd he (by rw [hl]; have := runes_le s; omega)
  rw [hl, runes_arr] at hr
  exact hr
theorem rnW_below (w : World) (s : ByteArray) (e : TypeId) : Below w.heap.size w (rnW w s e) := (Below.refl _ _).drew.alloc (Nat.le_refl _) _
theorem rnW_sat (w : World) (s : ByteArray) (e : TypeId) : SAt 1 rnC (rnW w s e) (some ⟨w.heap.size, 0, none⟩) (runes s) := fun i hi => by
  refine ⟨w.heap.size, 0, rfl, by simp [rnW], fun j u hj => ?_⟩
  have hr := cell_of_row _ w.heap.size (0 + i * 1 + j) _ _ _ (heap_alloc_new w.drew (.cells (((runes s).map fun c : Nat => Value.int .i32 (c : Int)).toArray ++ Array.replicate (grownCap w (runes s).length 0 e - (runes s).length) (.int .i32 0)) e))
  match j, hj with
  | 0, hj =>
    refine hr.trans ?_
    rw [Array.getElem?_append_left (by simp; omega)]
    simp only [Nat.zero_add, Nat.mul_one, Nat.add_zero]
    simp [List.getElem?_eq_getElem hi]
    simpa [rnC] using hj
  | j + 1, hj => simp [rnC] at hj
theorem cap_ge (w : World) (n : Nat) (e : TypeId) : n ≤ grownCap w n 0 e := by have := grownCap_ge w n 0 e; omega
/-- the reader at R has l left -/
def RG (w : World) (R : Nat) (l : List Nat) : Prop := ∃ (a : Option Addr) (c : Nat), w.heap[R]? = some (.cells #[.slice a l.length c] 145 (0, 0)) ∧ l.length ≤ c ∧ SAt 1 rnC w a l ∧ ∀ p, a = some p → p.block < R
theorem RG.lt {w : World} {R : Nat} {l : List Nat} (h : RG w R l) : R < w.heap.size := by
  obtain ⟨a, c, h1, _⟩ := h
  exact lt_of_block h1
theorem RG.row {w : World} {R : Nat} {l : List Nat} (h : RG w R l) : ∃ cs, w.heap[R]? = some (.cells cs 145 (0, 0)) := by
  obtain ⟨a, c, h1, _⟩ := h
  exact ⟨_, h1⟩
theorem RG.keep {w w' : World} {R : Nat} {l : List Nat} (h : RG w R l) (hs : w.heap.size ≤ w'.heap.size) (hb : ∀ k, k ≤ R → w'.heap[k]? = w.heap[k]?) : RG w' R l := by
  obtain ⟨a, c, h1, h2, h3, h4⟩ := h
  refine ⟨a, c, (hb R (Nat.le_refl _)).trans h1, h2, fun i hi => ?_, h4⟩
  obtain ⟨g, off, e, hg, hr⟩ := h3 i hi
  have hgR : g < R := h4 _ e
  refine ⟨g, off, e, by omega, fun j u hu => ?_⟩
  have := hr j u hu
  unfold World.cell? at this ⊢
  rw [hb g (by show g ≤ R; omega)]
  exact this
theorem RG.below {w w' : World} {R : Nat} {l : List Nat} (h : RG w R l) (hb : Below w.heap.size w w') : RG w' R l := h.keep hb.size fun k hk => hb.block k (by have := h.lt; omega)
theorem RG.grown {w w' : World} {R : Nat} {l : List Nat} {x : Option Nat} (h : RG w R l) (hg : w.grownBy w' x) (hx : ∀ k, x = some k → R < k) : RG w' R l := h.keep hg.size fun k hk => hg.block k (by have := h.lt; omega) (fun e => by have := hx k e.symm; omega)
theorem RG.setN {w : World} {R : Nat} {l : List Nat} (h : RG w R l) {N : Nat} (hN : R < N) (i : Nat) (v : Value) : RG (w.setCell ⟨N, i, none⟩ v) R l := h.keep (by simp) fun k hk => Below.heap_setCell _ _ _ _ (by show k ≠ N; omega)
/-- spans, elements, parts -/
def spC (s : Sp) : List Value := [.int .i32 (s.1 : Int), .int .i32 (s.2 : Int)]
theorem spC_length (s : Sp) : (spC s).length = 2 := rfl
theorem spC_one (s : Sp) : ∀ u ∈ spC s, u.oneCell' = true := by
  intro u hu
  simp only [spC, List.mem_cons, List.not_mem_nil, or_false] at hu
  rcases hu with rfl | rfl <;> rfl
abbrev ME := Nat × (Option Addr × Nat × List Sp) × Bool
def meC (m : ME) : List Value := [.int .i64 (m.1 : Int), .slice m.2.1.1 m.2.1.2.2.length m.2.1.2.1, .bool m.2.2]
theorem meC_length (m : ME) : (meC m).length = 3 := rfl
theorem meC_one (m : ME) : ∀ u ∈ meC m, u.oneCell' = true := by
  intro u hu
  simp only [meC, List.mem_cons, List.not_mem_nil, or_false] at hu
  rcases hu with rfl | rfl | rfl <;> rfl
def elOf (m : ME) : El := (m.1, m.2.1.2.2, m.2.2)
def EO (w : World) (base : Nat) (m : ME) : Prop := w.ownsRow base 149 2 (.slice m.2.1.1 m.2.1.2.2.length m.2.1.2.1) m.2.1.2.2.length (m.2.1.2.2.flatMap spC)
abbrev MP := Bool × (Option Addr × Nat × List ME)
def mpC (m : MP) : List Value := [.bool m.1, .slice m.2.1 m.2.2.2.length m.2.2.1]
theorem mpC_length (m : MP) : (mpC m).length = 2 := rfl
theorem mpC_one (m : MP) : ∀ u ∈ mpC m, u.oneCell' = true := by
  intro u hu
  simp only [mpC, List.mem_cons, List.not_mem_nil, or_false] at hu
  rcases hu with rfl | rfl <;> rfl
def ptOf (m : MP) : Pt := (m.1, m.2.2.2.map elOf)
def PO (w : World) (base : Nat) (m : MP) : Prop := w.ownsRow base 152 3 (.slice m.2.1 m.2.2.2.length m.2.2.1) m.2.2.2.length (m.2.2.2.flatMap meC) ∧ ∀ x ∈ m.2.2.2, EO w base x
theorem EO.below {w w' : World} {base : Nat} {m : ME} (h : EO w base m) (hb : Below w.heap.size w w') : EO w' base m := own_belowG h hb
theorem PO.below {w w' : World} {base : Nat} {m : MP} (h : PO w base m) (hb : Below w.heap.size w w') : PO w' base m := ⟨own_belowG h.1 hb, fun x hx => (h.2 x hx).below hb⟩
theorem EO.low {w : World} {base b2 : Nat} {m : ME} (h : EO w base m) (hb : b2 ≤ base) : EO w b2 m := own_lowG h hb
theorem PO.low {w : World} {base b2 : Nat} {m : MP} (h : PO w base m) (hb : b2 ≤ base) : PO w b2 m := ⟨own_lowG h.1 hb, fun x hx => (h.2 x hx).low hb⟩
/-- elements and parts as they are read -/
def EAt (w : World) (a : Option Addr) (l : List ME) : Prop := SAt 3 meC w a l ∧ ∀ m ∈ l, SAt 2 spC w m.2.1.1 m.2.1.2.2 ∧ m.2.1.2.2.length ≤ 9223372036854775807
def PtAt (w : World) (a : Option Addr) (l : List MP) : Prop := SAt 2 mpC w a l ∧ ∀ m ∈ l, EAt w m.2.1 m.2.2.2 ∧ m.2.2.2.length ≤ 9223372036854775807
theorem EAt.below {w w' : World} {a : Option Addr} {l : List ME} (h : EAt w a l) (hb : Below w.heap.size w w') : EAt w' a l := ⟨h.1.below hb, fun m hm => ⟨(h.2 m hm).1.below hb, (h.2 m hm).2⟩⟩
theorem PtAt.below {w w' : World} {a : Option Addr} {l : List MP} (h : PtAt w a l) (hb : Below w.heap.size w w') : PtAt w' a l := ⟨h.1.below hb, fun m hm => ⟨(h.2 m hm).1.below hb, (h.2 m hm).2⟩⟩
theorem EO.at {w : World} {base : Nat} {m : ME} (h : EO w base m) : SAt 2 spC w m.2.1.1 m.2.1.2.2 ∧ m.2.1.2.2.length ≤ 9223372036854775807 := by
  obtain ⟨h1, h2, h3, _⟩ := own_satG spC_length h
  exact ⟨h1, by unfold maxLen at h3; omega⟩
theorem PO.at {w : World} {base : Nat} {m : MP} (h : PO w base m) : EAt w m.2.1 m.2.2.2 ∧ m.2.2.2.length ≤ 9223372036854775807 := by
  obtain ⟨h1, h2, h3, _⟩ := own_satG meC_length h.1
  exact ⟨⟨h1, fun x hx => (h.2 x hx).at⟩, by unfold maxLen at h3; omega⟩
theorem info_sp : (Tryd.prog.info? 149).map (fun i => (i.zero, i.size, i.bytes)) = some (some (.agg #[.int .i32 0, .int .i32 0]), 2, 8) := by kernel_rfl
theorem info_el : (Tryd.prog.info? 152).map (fun i => (i.zero, i.size, i.bytes)) = some (some (.agg #[.int .i64 0, .slice none 0 0, .bool false]), 3, 40) := by kernel_rfl
theorem info_pt : (Tryd.prog.info? 131).map (fun i => (i.zero, i.size, i.bytes)) = some (some (.agg #[.bool false, .slice none 0 0]), 2, 32) := by kernel_rfl
end Go.Proofs.YtokckcmkbnhhhaaDoor
