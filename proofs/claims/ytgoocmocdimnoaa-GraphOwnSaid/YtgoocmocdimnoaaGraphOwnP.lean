/- What GraphOwn holds while it fills its own heap. -/
import Derived.Test.YtgoocmocdimnoaaHeapOpen
import Derived.Test.YtgoocmocdimnoaaOrder
namespace Go.Proofs.Ytgoocmocdimnoaa
open Go.RowKit Plain
set_option linter.unusedVariables false
def kcC (r : TRow) : List Value := [.slice r.1 r.2.2.1.length r.2.1]
theorem kcC_length (r : TRow) : (kcC r).length = 1 := rfl
/-- a thing whose kids lie in a row of their own with room behind them -/
def VOk (w u : World) (r : TRow) : Prop := ∃ g, r.1 = some ⟨g, 0, none⟩ ∧ r.2.1 = r.2.2.1.length + 3 ∧ w.heap.size + 1 < g ∧ Amp iC [.int .i64 0] 3 u g r.2.2.1 77
def GO (w : World) (I R : Nat) (GVc AVc : Array Value) (rs : List Int) (bz : Bool) (ta : Option Addr) (tcc : Nat) (vows : List TRow) (ka : Option Addr) (kc : Nat) (kv : List TRow) (u : World) : Prop :=
  u.heap[I]? = some (.cells #[.slice ta vows.length tcc, .slice (some ⟨R, 0, none⟩) rs.length (rs.length + 3), .bool bz] 41 (0, 0)) ∧ Amp iC [.int .i64 0] 3 u R rs 77 ∧ u.heap[w.heap.size]? = some (.cells GVc 41 (0, 0)) ∧ u.heap[w.heap.size + 1]? = some (.cells AVc 43 (0, 0)) ∧ Below w.heap.size w u ∧
  u.ownsRow (w.heap.size + 2) 47 3 (.slice ta vows.length tcc) vows.length (vows.flatMap tcC) ∧ u.ownsRow (w.heap.size + 2) 23 1 (.slice ka kv.length kc) kv.length (kv.flatMap kcC) ∧ ∀ r ∈ vows, VOk w u r
section
variable {w u u' : World} {I R : Nat} {GVc AVc : Array Value} {rs : List Int} {bz : Bool} {ta : Option Addr} {tcc : Nat} {vows : List TRow} {ka : Option Addr} {kc : Nat} {kv : List TRow}
theorem VOk.keep {r : TRow} (h : VOk w u r) (hb : ∀ (g : Nat) (cs : Array Value), u.heap[g]? = some (Obj.cells cs 3 (0, 0)) → u'.heap[g]? = u.heap[g]?) : VOk w u' r := by
  obtain ⟨g, h1, h2, h3, h4⟩ := h
  exact ⟨g, h1, h2, h3, (hb g _ h4).trans h4⟩
theorem GO.below (h : GO w I R GVc AVc rs bz ta tcc vows ka kc kv u) (hb : Below u.heap.size u u') : GO w I R GVc AVc rs bz ta tcc vows ka kc kv u' := by
  obtain ⟨h1, h2, h3, h4, h5, h6, h7, h8⟩ := h
  exact ⟨(hb.block _ (lt_of_block h1)).trans h1, h2.below hb, (hb.block _ (lt_of_block h3)).trans h3, (hb.block _ (lt_of_block h4)).trans h4, Below.step h5 hb, own_below h6 hb, own_below h7 hb, fun r hr => (h8 r hr).keep fun g cs hg => hb.block g (lt_of_block hg)⟩
theorem GO.sat (h : GO w I R GVc AVc rs bz ta tcc vows ka kc kv u) : vows.length ≤ tcc ∧ tcc ≤ 9223372036854775807 := own_cap h.2.2.2.2.2.1
/-- one more thing -/
theorem GO.things (h : GO w I R GVc AVc rs bz ta tcc vows ka kc kv u) (hI : w.heap.size + 1 < I) (hg : u.grownBy u' (Value.slice ta vows.length tcc).ownBlock) (r : TRow) (hv : VOk w u r) {ta' : Option Addr} {tc' : Nat} (hn : u'.ownsRow (w.heap.size + 2) 47 3 (.slice ta' (vows.length + 1) tc') (vows.length + 1) (vows.flatMap tcC ++ tcC r)) :
    GO w I R GVc AVc rs bz ta' tc' (vows ++ [r]) ka kc kv (u'.setCell ⟨I, 0, none⟩ (.slice ta' (vows.length + 1) tc')) := by
  obtain ⟨h1, h2, h3, h4, h5, h6, h7, h8⟩ := h
  have keep : ∀ {g : Nat} {cs : Array Value} {t : TypeId}, u.heap[g]? = some (.cells cs t (0, 0)) → 47 ≠ t → u'.heap[g]? = some (.cells cs t (0, 0)) := fun {g cs t} hh ht => (hg.block g (lt_of_block hh) (own_neq h6 hh ht)).trans hh
  have k1 := keep h1 (by decide)
  have ho : ∀ {g : Nat} {cs : Array Value} {t : TypeId}, u'.heap[g]? = some (.cells cs t (0, 0)) → g ≠ I → (u'.setCell ⟨I, 0, none⟩ (.slice ta' (vows.length + 1) tc')).heap[g]? = some (.cells cs t (0, 0)) := fun {g cs t} hh hne => (heap_setCell_other u' ⟨I, 0, none⟩ g _ hne).trans hh
  have hty : ∀ {g : Nat} {cs : Array Value} {t : TypeId}, u'.heap[g]? = some (.cells cs t (0, 0)) → t ≠ 41 → g ≠ I := fun {g cs t} hh ht e => by
    subst e
    rw [k1] at hh
    injection hh with e
    injection e with _ e
    exact ht e.symm
  have hb2 : Below w.heap.size w u' := below_own h5 hg h5.size h6 (by omega)
  refine ⟨?_, ?_, ho (keep h3 (by decide)) (by omega), ho (keep h4 (by decide)) (by omega), hb2.setCell (p := ⟨I, 0, none⟩) (by show _ ≤ I; omega) _, ?_, own_store (own_same h7 fun g cs _ hh => (keep (t := 23) hh (by decide)).trans hh.symm) k1 (by decide) 0 _, fun r' hr => ?_⟩
  · have := heap_setCell_same u' I 0 _ _ (.slice ta' (vows.length + 1) tc') k1
    rw [List.length_append]
    simpa using this
  · exact ho (keep h2 (by decide)) (hty (keep h2 (by decide)) (by decide))
  · rw [List.length_append, List.flatMap_append]
    simp only [List.flatMap_cons, List.flatMap_nil, List.append_nil]
    exact own_store hn k1 (by decide) 0 _
  · have hk : ∀ (g : Nat) (cs : Array Value), u.heap[g]? = some (Obj.cells cs 3 (0, 0)) → (u'.setCell ⟨I, 0, none⟩ (.slice ta' (vows.length + 1) tc')).heap[g]? = u.heap[g]? := fun g cs hh => (ho (keep hh (by decide)) (hty (keep hh (by decide)) (by decide))).trans hh.symm
    rcases List.mem_append.1 hr with hr | hr
    · exact (h8 r' hr).keep hk
    · simp only [List.mem_singleton] at hr
      subst hr
      exact hv.keep hk
/-- one more row of kids -/
theorem GO.kids (h : GO w I R GVc AVc rs bz ta tcc vows ka kc kv u) (hg : u.grownBy u' (Value.slice ka kv.length kc).ownBlock) (r : TRow) {ka' : Option Addr} {kc' : Nat} (hn : u'.ownsRow (w.heap.size + 2) 23 1 (.slice ka' (kv.length + 1) kc') (kv.length + 1) (kv.flatMap kcC ++ kcC r)) :
    GO w I R GVc AVc rs bz ta tcc vows ka' kc' (kv ++ [r]) u' := by
  obtain ⟨h1, h2, h3, h4, h5, h6, h7, h8⟩ := h
  have keep : ∀ {g : Nat} {cs : Array Value} {t : TypeId}, u.heap[g]? = some (.cells cs t (0, 0)) → 23 ≠ t → u'.heap[g]? = some (.cells cs t (0, 0)) := fun {g cs t} hh ht => (hg.block g (lt_of_block hh) (own_neq h7 hh ht)).trans hh
  refine ⟨keep h1 (by decide), keep h2 (by decide), keep h3 (by decide), keep h4 (by decide), below_own h5 hg h5.size h7 (by omega), own_same h6 fun g cs _ hh => (keep (t := 47) hh (by decide)).trans hh.symm, ?_, fun r' hr => (h8 r' hr).keep fun g cs hh => (keep hh (by decide)).trans hh.symm⟩
  rw [List.length_append, List.flatMap_append]
  simp only [List.flatMap_cons, List.flatMap_nil, List.append_nil]
  exact hn
theorem own_satA {α : Type} {c : α → List Value} {n : Nat} {e : TypeId} {base : Nat} {a : Option Addr} {cp : Nat} {l : List α} (hc : ∀ y, (c y).length = n) (hn : 0 < n) (h : u.ownsRow base e n (.slice a l.length cp) l.length (l.flatMap c)) : SAt n c u a l := by
  obtain ⟨a', cap, e, h1, h2, hs⟩ := SAt.own h hc
  injection e with e1 _ _
  subst e1
  exact hs
/-- the heap that GraphOwn made, all its rows with room behind them -/
def GP (w : World) (I R T : Nat) (GVc AVc : Array Value) (rs : List Int) (bz : Bool) (vows : List TRow) (ka : Option Addr) (u : World) : Prop :=
  u.heap[I]? = some (.cells #[.slice (some ⟨T, 0, none⟩) vows.length (vows.length + 3), .slice (some ⟨R, 0, none⟩) rs.length (rs.length + 3), .bool bz] 41 (0, 0)) ∧ Amp iC [.int .i64 0] 3 u R rs 77 ∧ u.heap[w.heap.size]? = some (.cells GVc 41 (0, 0)) ∧ u.heap[w.heap.size + 1]? = some (.cells AVc 43 (0, 0)) ∧ Below w.heap.size w u ∧
  Amp tcC (tcC (none, 0, newT)) 47 u T vows (none, 0, [], 77, false) ∧ SAt 1 kcC u ka vows ∧ ∀ r ∈ vows, VOk w u r
theorem GP.below {T : Nat} (h : GP w I R T GVc AVc rs bz vows ka u) (hb : Below u.heap.size u u') : GP w I R T GVc AVc rs bz vows ka u' := by
  obtain ⟨h1, h2, h3, h4, h5, h6, h7, h8⟩ := h
  exact ⟨(hb.block _ (lt_of_block h1)).trans h1, h2.below hb, (hb.block _ (lt_of_block h3)).trans h3, (hb.block _ (lt_of_block h4)).trans h4, Below.step h5 hb, h6.below hb, h7.below hb, fun r hr => (h8 r hr).keep fun g cs hg => hb.block g (lt_of_block hg)⟩
theorem GO.fixed {T : Nat} (h : GO w I R GVc AVc rs bz ta tcc vows ka kc vows u) (hI : w.heap.size + 1 < I) (hA : Amp tcC (tcC (none, 0, newT)) 47 u T vows (none, 0, [], 77, false)) :
    GP w I R T GVc AVc rs bz vows ka (u.setCell ⟨I, 0, none⟩ (.slice (some ⟨T, 0, none⟩) vows.length (vows.length + 3))) := by
  obtain ⟨h1, h2, h3, h4, h5, h6, h7, h8⟩ := h
  have ho : ∀ {g : Nat} {cs : Array Value} {t : TypeId}, u.heap[g]? = some (.cells cs t (0, 0)) → g ≠ I → (u.setCell ⟨I, 0, none⟩ (.slice (some ⟨T, 0, none⟩) vows.length (vows.length + 3))).heap[g]? = some (.cells cs t (0, 0)) := fun {g cs t} hh hne => (heap_setCell_other u ⟨I, 0, none⟩ g _ hne).trans hh
  have hty : ∀ {g : Nat} {cs : Array Value} {t : TypeId}, u.heap[g]? = some (.cells cs t (0, 0)) → t ≠ 41 → g ≠ I := fun {g cs t} hh ht e => by
    subst e
    rw [h1] at hh
    injection hh with e
    injection e with _ e
    exact ht e.symm
  refine ⟨?_, ho h2 (hty h2 (by decide)), ho h3 (by omega), ho h4 (by omega), h5.setCell (p := ⟨I, 0, none⟩) (by show _ ≤ I; omega) _, ho hA (hty hA (by decide)), own_satA kcC_length (by decide) (own_store h7 h1 (by decide) 0 _), fun r hr => (h8 r hr).keep fun g cs hh => (ho hh (hty hh (by decide))).trans hh.symm⟩
  have := heap_setCell_same u I 0 _ _ (.slice (some ⟨T, 0, none⟩) vows.length (vows.length + 3)) h1
  simpa using this
theorem GP.tat {T : Nat} (h : GP w I R T GVc AVc rs bz vows ka u) (hl : ∀ r ∈ vows, r.2.2.1.length ≤ 17592186043904) : TAt u (some ⟨T, 0, none⟩) vows := ⟨h.2.2.2.2.2.1.sat tcC_length, fun r hr => by
  obtain ⟨g, h1, _, _, h4⟩ := h.2.2.2.2.2.2.2 r hr
  rw [h1]
  exact ⟨h4.sat iC_length, Nat.le_trans (hl r hr) (by decide)⟩⟩
def tG (r : TRow) : GRow := (r.1, r.2.1, r.2.2.1)
theorem GP.gat {T : Nat} (h : GP w I R T GVc AVc rs bz vows ka u) (hl : ∀ r ∈ vows, r.2.2.1.length ≤ 17592186043904) : GAt u ka (vows.map tG) := by
  refine ⟨fun i hi => ?_, fun r hr => ?_⟩
  · rw [List.length_map] at hi
    obtain ⟨g, off, e, hg, hc⟩ := h.2.2.2.2.2.2.1 i hi
    refine ⟨g, off, e, hg, ?_⟩
    rw [List.getElem_map]
    exact hc
  · obtain ⟨s, hs, rfl⟩ := List.mem_map.1 hr
    exact (h.tat hl).2 s hs
theorem order_v (a : Option Addr) (cap : Nat) (rows : List GRow) (w : World) (h : GAt w a rows) (hl : rows.length ≤ 9223372036854775807) :
    Calls Try.prog 16 #[.slice a rows.length cap] w fun e w' => ∃ v, e = .returned v ∧ Below w.heap.size w w' := by
  refine (order_any a cap rows w h hl).mono ?_
  rintro e w1 ⟨hb, ⟨_, c, _, _, rfl⟩ | ⟨_, _, rfl⟩ | ⟨_, a, l, c, _, rfl, _⟩⟩
  · exact ⟨_, rfl, hb⟩
  · exact ⟨_, rfl, hb⟩
  · exact ⟨_, rfl, hb⟩
/-- what Do leaves, in rows of its own -/
def RK (base : Nat) (u : World) (ta : Option Addr) (tc : Nat) (rows : List TRow) (ra : Option Addr) (rc : Nat) (rs : List Int) : Prop :=
  u.ownsRow base 47 3 (.slice ta rows.length tc) rows.length (rows.flatMap tcC) ∧ u.ownsRow base 3 1 (.slice ra rs.length rc) rs.length (rs.flatMap iC) ∧ ∀ r ∈ rows, u.ownsRow base 3 1 (.slice r.1 r.2.2.1.length r.2.1) r.2.2.1.length (r.2.2.1.flatMap iC)
theorem RK.keep {base : Nat} {ta : Option Addr} {tc : Nat} {rows : List TRow} {ra : Option Addr} {rc : Nat} {rs : List Int} (h : RK base u ta tc rows ra rc rs) (hb : ∀ g, base ≤ g → g < u.heap.size → u'.heap[g]? = u.heap[g]?) : RK base u' ta tc rows ra rc rs := by
  have k : ∀ {e : TypeId} {n m c : Nat} {a : Option Addr} {xs : List Value}, u.ownsRow base e n (.slice a m c) m xs → u'.ownsRow base e n (.slice a m c) m xs := fun {e n m c a xs} ho => own_same ho fun g cs hg hh => by
    rcases own_one ho with rfl | ⟨g', rfl, h1, h2⟩
    · cases hg
    · have : g = g' := by simp only [Value.ownBlock] at hg; injection hg with hg; exact hg.symm
      subst this
      exact hb g h1 h2
  exact ⟨k h.1, k h.2.1, fun r hr => k (h.2.2 r hr)⟩
theorem RK.tat {base : Nat} {ta : Option Addr} {tc : Nat} {rows : List TRow} {ra : Option Addr} {rc : Nat} {rs : List Int} (h : RK base u ta tc rows ra rc rs) : TAt u ta rows ∧ SAt 1 iC u ra rs ∧ rows.length ≤ 9223372036854775807 ∧ rs.length ≤ 9223372036854775807 :=
  ⟨⟨own_satA tcC_length (by decide) h.1, fun r hr => own_sat (h.2.2 r hr)⟩, (own_sat h.2.1).1, Nat.le_trans (own_cap h.1).1 (own_cap h.1).2, (own_sat h.2.1).2⟩
def DoV (res : Option Hp) (w0 : World) (e : Ending) (w : World) : Prop := Below w0.heap.size w0 w ∧ ∃ ta tc rows ra rc rs bz c, RK w0.heap.size w ta tc rows ra rc rs ∧ (tK rows, rs, bz) = res.getD ([], [], false) ∧ e = .returned (.tuple #[.agg #[.slice ta rows.length tc, .slice ra rs.length rc, .bool bz], .int .i64 c])
theorem do_v (a : Option Addr) (tc : Nat) (rows : List TRow) (b : Option Addr) (rc : Nat) (rs : List Int) (bz : Bool) (k x y : Int) (w : World) (h : TAt w a rows) (hl : rows.length ≤ 9223372036854775807) (hk : SAt 1 iC w b rs) (hkl : rs.length ≤ 9223372036854775807) :
    Calls Try.prog 20 #[.agg #[.slice a rows.length tc, .slice b rs.length rc, .bool bz], .agg #[.int .i64 k, .int .i64 x, .int .i64 y]] w (DoV (doF (tK rows, rs, bz) (k, x, y)) w) := by
  refine (do_any a tc rows b rc rs bz k x y w h hl hk hkl).mono ?_
  rintro e w1 ⟨hb, hm⟩
  refine ⟨hb, ?_⟩
  cases hd : doF (tK rows, rs, bz) (k, x, y) with
  | none =>
    rw [hd] at hm
    obtain ⟨c, _, rfl⟩ := hm
    exact ⟨none, 0, [], none, 0, [], false, _, ⟨World.ownsRow_nil _ _ _ _, World.ownsRow_nil _ _ _ _, by simp⟩, rfl, rfl⟩
  | some g =>
    rw [hd] at hm
    obtain ⟨H, ta, tc, rows, ra, rc, rs, bz, ho, rfl, rfl⟩ := hm
    exact ⟨ta, tc, rows, ra, rc, rs, bz, 0, ⟨ho.2.2.1, ho.2.2.2.1, ho.2.2.2.2⟩, rfl, rfl⟩
theorem amp_col {z : List Value} {T : Nat} {t : TypeId} {u : World} {l : List TRow} {col : Int} (h : Amp tcC z t u T l (none, 0, [], col, false)) : u.cell? ⟨T, l.length * 3 + 1, none⟩ = some (.int .i64 col) ∧ u.cell? ⟨T, (l.length + 1) * 3 + 1, none⟩ = some (.int .i64 col) := by
  have hfl : (l.flatMap tcC).length = l.length * 3 := flat_length tcC_length l
  have e := fun k => cell_of_row u T k _ _ _ h
  constructor
  · rw [e, List.getElem?_toArray, List.append_assoc, List.getElem?_append_right (by omega), hfl, show l.length * 3 + 1 - l.length * 3 = 1 by omega]
    rfl
  · rw [e, List.getElem?_toArray, List.append_assoc, List.getElem?_append_right (by omega), hfl, show (l.length + 1) * 3 + 1 - l.length * 3 = 4 by omega]
    rfl
/-- an int row of so many cells below a bound -/
def IRw (B : Nat) (u : World) (g n : Nat) : Prop := g < B ∧ ∃ cs, u.heap[g]? = some (.cells cs 3 (0, 0)) ∧ cs.size = n
theorem IRw.below {B g n : Nat} (h : IRw B u g n) (hb : Below u.heap.size u u') : IRw B u' g n := ⟨h.1, by obtain ⟨cs, h1, h2⟩ := h.2; exact ⟨cs, (hb.block _ (lt_of_block h1)).trans h1, h2⟩⟩
theorem IRw.spoil {B B' g n k m : Nat} (h : IRw B u k m) (hk : IRw B' u g n) (hg : u.grownBy u' (some g)) (hr : ∃ cs, u'.heap[g]? = some (.cells cs 3 (0, 0)) ∧ cs.size = n) : IRw B u' k m := by
  refine ⟨h.1, ?_⟩
  obtain ⟨cs, h1, h2⟩ := h.2
  by_cases e : k = g
  · subst e
    obtain ⟨cs2, h3, h4⟩ := hk.2
    rw [h1] at h3
    injection h3 with h3
    injection h3 with h3
    subst h3
    obtain ⟨c, h5, h6⟩ := hr
    exact ⟨c, h5, by omega⟩
  · exact ⟨cs, (hg.block k (lt_of_block h1) (fun e2 => e (Option.some.inj e2))).trans h1, h2⟩
/-- what is left while GraphOwn spoils its rows -/
def SPo (w : World) (B I R T n m : Nat) (IRc : Array Value) (vows : List TRow) (u : World) : Prop :=
  u.heap[I]? = some (.cells IRc 41 (0, 0)) ∧ (∃ z, Amp tcC z 47 u T vows (none, 0, [], 77, false) ∧ (vows.flatMap tcC ++ (tcC (none, 0, [], 77, false) ++ tcC (none, 0, [], 77, false)) ++ z).length = n * 3) ∧ IRw B u R m ∧ Below w.heap.size w u ∧ w.heap.size + 1 < R ∧ ∀ r ∈ vows, ∃ g, r.1 = some ⟨g, 0, none⟩ ∧ r.2.1 = r.2.2.1.length + 3 ∧ w.heap.size + 1 < g ∧ IRw B u g (r.2.2.1.length + 3)
theorem SPo.below {B T n m : Nat} {IRc : Array Value} (h : SPo w B I R T n m IRc vows u) (hb : Below u.heap.size u u') : SPo w B I R T n m IRc vows u' := by
  obtain ⟨h1, ⟨z, h2, h2'⟩, h3, h4, h5, h6⟩ := h
  refine ⟨(hb.block _ (lt_of_block h1)).trans h1, ⟨z, h2.below hb, h2'⟩, h3.below hb, Below.step h4 hb, h5, fun r hr => ?_⟩
  obtain ⟨g, a, b, c, d⟩ := h6 r hr
  exact ⟨g, a, b, c, d.below hb⟩
theorem SPo.spoil {B T n m g q : Nat} {IRc : Array Value} (h : SPo w B I R T n m IRc vows u) (hk : IRw B u g q) (hw : w.heap.size ≤ g) (hg : u.grownBy u' (some g)) (hr : ∃ cs, u'.heap[g]? = some (.cells cs 3 (0, 0)) ∧ cs.size = q) : SPo w B I R T n m IRc vows u' := by
  obtain ⟨h1, ⟨z, h2, h2'⟩, h3, h4, h5, h6⟩ := h
  have ht : ∀ {k : Nat} {cs : Array Value} {t : TypeId}, u.heap[k]? = some (.cells cs t (0, 0)) → t ≠ 3 → u'.heap[k]? = some (.cells cs t (0, 0)) := fun {k cs t} hh hne => (hg.block k (lt_of_block hh) (fun e => by
    obtain ⟨c, h7, _⟩ := hk.2
    have e := Option.some.inj e
    subst e
    rw [hh] at h7
    injection h7 with h7
    injection h7 with _ h7
    exact hne h7)).trans hh
  refine ⟨ht h1 (by decide), ⟨z, ht h2 (by decide), h2'⟩, h3.spoil hk hg hr, h4.grown hg h4.size (fun k e => by rw [Option.some.inj e] at hw; exact hw), h5, fun r hr' => ?_⟩
  obtain ⟨g', a, b, c, d⟩ := h6 r hr'
  exact ⟨g', a, b, c, d.spoil hk hg hr⟩
theorem amp_irw {B g : Nat} {l : List Int} (h : Amp iC [.int .i64 0] 3 u g l 77) (hB : g < B) : IRw B u g (l.length + 3) := ⟨hB, _, h, by rw [List.size_toArray, List.length_append, List.length_append, flat_length iC_length, Nat.mul_one]; rfl⟩
theorem GP.spo {B T : Nat} (h : GP w I R T GVc AVc rs bz vows ka u) (hR : R < B) (hRw : w.heap.size + 1 < R) (hv : ∀ r ∈ vows, ∀ g, r.1 = some ⟨g, 0, none⟩ → g < B) :
    SPo w B I R T (vows.length + 3) (rs.length + 3) #[.slice (some ⟨T, 0, none⟩) vows.length (vows.length + 3), .slice (some ⟨R, 0, none⟩) rs.length (rs.length + 3), .bool bz] vows u := by
  refine ⟨h.1, ⟨_, h.2.2.2.2.2.1, ?_⟩, amp_irw h.2.1 hR, h.2.2.2.2.1, hRw, fun r hr => ?_⟩
  · rw [List.length_append, List.length_append, flat_length tcC_length, List.length_append]
    simp only [tcC_length]
    omega
  · obtain ⟨g, a, b, c, d⟩ := h.2.2.2.2.2.2.2 r hr
    exact ⟨g, a, b, c, amp_irw d (hv r hr g a)⟩
theorem RK.grown {base g : Nat} {ta : Option Addr} {tc : Nat} {rows : List TRow} {ra : Option Addr} {rc : Nat} {rs : List Int} (h : RK base u ta tc rows ra rc rs) (hg : u.grownBy u' (some g)) (hlt : g < base) : RK base u' ta tc rows ra rc rs :=
  h.keep fun k hk hku => hg.block k hku (fun e => by have := Option.some.inj e; omega)
theorem RK.below {base : Nat} {ta : Option Addr} {tc : Nat} {rows : List TRow} {ra : Option Addr} {rc : Nat} {rs : List Int} (h : RK base u ta tc rows ra rc rs) (hb : Below u.heap.size u u') : RK base u' ta tc rows ra rc rs := h.keep fun g _ hg => hb.block g hg
theorem row_grown {g k : Nat} {o : Obj} (h : u.heap[k]? = some o) (hg : u.grownBy u' (some g)) (hlt : g < k) : u'.heap[k]? = some o := by
  have hk : k < u.heap.size := by
    rcases Nat.lt_or_ge k u.heap.size with h' | h'
    · exact h'
    · rw [Array.getElem?_eq_none h'] at h; cases h
  exact (hg.block k hk (fun e => by have := Option.some.inj e; omega)).trans h
theorem row_below {k : Nat} {o : Obj} (h : u.heap[k]? = some o) (hb : Below u.heap.size u u') : u'.heap[k]? = some o := by
  have hk : k < u.heap.size := by
    rcases Nat.lt_or_ge k u.heap.size with h' | h'
    · exact h'
    · rw [Array.getElem?_eq_none h'] at h; cases h
  exact (hb.block k hk).trans h
end
end Go.Proofs.Ytgoocmocdimnoaa
