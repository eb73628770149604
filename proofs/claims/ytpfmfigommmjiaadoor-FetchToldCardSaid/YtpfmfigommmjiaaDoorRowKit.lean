/- Small laws on rows of the call's own: parted by their types, stored over, read. -/
import Derived.Test.YtpfmfigommmjiaaDoorFtB
import Derived.Test.YtpfmfigommmjiaaDoorDet3
import Derived.Test.YtpfmfigommmjiaaDoorOwnSet
import Derived.Test.YtpfmfigommmjiaaDoorResults
import Derived.Test.YtpfmfigommmjiaaDoorAppendNew
namespace Go.Proofs.YtpfmfigommmjiaaDoor
open Go.RowKit
set_option linter.unusedVariables false
set_option linter.unusedSimpArgs false
theorem heap_twoK (w : World) (o1 o2 : Obj) : ((w.alloc o1).alloc o2).heap[w.heap.size]? = some o1 ∧ ((w.alloc o1).alloc o2).heap[w.heap.size + 1]? = some o2 := by
  constructor
  · exact (Below.heap_alloc (w.alloc o1) o2 w.heap.size (by simp)).trans (heap_alloc_new w o1)
  · have := heap_alloc_new (w.alloc o1) o2
    simpa using this
/-- a whole row of the call's own stored over -/
theorem st_row {P : Program} {Q : Exit → Act → World → Prop} {a : Act} {o : Oper} {x y : Operand} {w0 u : World} {B b n : Nat} {ty : TypeId} {full : Array Value} (ho : o.op = .store ty x y) (hx : a.eval x = .pointer (some ⟨b, 0, none⟩)) (hy : a.eval y = .agg full)
    (hS : Below B w0 u) (hZ : RowZ ty B b n u) (hf : full.size = n) (hi : (P.info? ty).map (·.size) = some full.size) (h1 : full.all (·.oneCell') = true) (hdst : o.dst = none) :
    o.wp P a u (fun a' w' => a'.defers = a.defers ∧ Below B w0 w' ∧ w'.heap[b]? = some (.cells full ty (0, 0)) ∧ ∀ k, k ≠ b → w'.heap[k]? = u.heap[k]?) Q := by
  obtain ⟨h3, cs, h4, h5⟩ := hZ
  have hth := there_row h4
  rw [h5, ← hf] at hth
  refine wp_store_mid ty x y ho b 0 full hx hy hth hi h1 ?_
  have h6 := setCells_full h4 full (by rw [hf, h5])
  exact ⟨by rw [hdst]; rfl, below_setCells h3 _ _ hS, h6, fun k hk => heap_setCells_other _ _ hk _ _ _⟩
theorem own_keep {w w' : World} {base : Nat} {e : TypeId} {k : Nat} {v : Value} {n : Nat} {xs : List Value} (h : w.ownsRow base e k v n xs) (hb : ∀ g cs, w.heap[g]? = some (.cells cs e (0, 0)) → base ≤ g → w'.heap[g]? = w.heap[g]?) : w'.ownsRow base e k v n xs := by
  refine ⟨h.1, ?_⟩
  rcases h.2 with hv | ⟨g, cap, cur, hv, hB, hg, h3⟩
  · exact .inl hv
  · exact .inr ⟨g, cap, cur, hv, hB, (hb g cur hg hB).trans hg, h3⟩
theorem type_ne {w : World} {g b : Nat} {cs cs' : Array Value} {t t' : TypeId} (h : w.heap[g]? = some (.cells cs t (0, 0))) (h' : w.heap[b]? = some (.cells cs' t' (0, 0))) (ht : t ≠ t') : g ≠ b := by
  intro e
  rw [e, h'] at h
  injection h with h
  injection h with _ h
  exact ht h.symm
theorem rowz_ne {w : World} {g b n B0 : Nat} {cs : Array Value} {t t' : TypeId} (h : w.heap[g]? = some (.cells cs t (0, 0))) (h' : RowZ t' B0 b n w) (ht : t ≠ t') : g ≠ b := by
  obtain ⟨_, cs', h2, _⟩ := h'
  exact type_ne h h2 ht
/-- what a sender of the call's own is made of -/
theorem sat_own1 {α : Type} {c : α → List Value} {w : World} {base k : Nat} {a : Option Addr} {cc : Nat} {l : List α} {T : TypeId} (hc : ∀ y, (c y).length = k) (h : w.ownsRow base T k (.slice a l.length cc) l.length (l.flatMap c)) : SAt k c w a l := by
  obtain ⟨a', c', e1, _, _, h⟩ := SAt.own h hc
  injection e1 with e1 _ _
  subst e1
  exact h
theorem own_mono {w : World} {base base' : Nat} {e : TypeId} {k : Nat} {v : Value} {n : Nat} {xs : List Value} (h : w.ownsRow base e k v n xs) (hb : base' ≤ base) : w.ownsRow base' e k v n xs := by
  refine ⟨h.1, ?_⟩
  rcases h.2 with hv | ⟨g, cap, cur, hv, hB, hg, h3⟩
  · exact .inl hv
  · exact .inr ⟨g, cap, cur, hv, Nat.le_trans hb hB, hg, h3⟩
theorem own_neqK {w : World} {base : Nat} {t t' : TypeId} {k n g : Nat} {v : Value} {xs : List Value} {cs : Array Value} (h : w.ownsRow base t k v n xs) (hg : w.heap[g]? = some (.cells cs t' (0, 0))) (ht : t' ≠ t) : some g ≠ v.ownBlock := by
  rcases h.2 with ⟨rfl, _⟩ | ⟨g', cap, cur, rfl, _, hh, _⟩
  · simp [Value.ownBlock]
  · intro he
    have e : g = g' := by simpa [Value.ownBlock] using he
    exact type_ne hg hh ht e
theorem own_capK {w : World} {base : Nat} {t : TypeId} {k n c m : Nat} {a : Option Addr} {xs : List Value} (h : w.ownsRow base t k (.slice a m c) n xs) : n ≤ c ∧ c ≤ 9223372036854775807 := by
  rcases h.2 with ⟨e0, h0⟩ | ⟨g, c', cur, e0, _, _, hn, hm, _⟩
  · injection e0 with _ _ e3
    omega
  · injection e0 with _ _ e3
    subst e3
    exact ⟨hn, by unfold maxLen at hm; exact hm⟩
/-- packets in blocks of their own -/
theorem SAt.keep {α : Type} {n : Nat} {c : α → List Value} {w w' : World} {a : Option Addr} {l : List α} (h : SAt n c w a l) (hs : w.heap.size ≤ w'.heap.size) (hb : ∀ ad, a = some ad → w'.heap[ad.block]? = w.heap[ad.block]?) : SAt n c w' a l := fun i hi => by
  obtain ⟨b, off, e, hbl, hr⟩ := h i hi
  refine ⟨b, off, e, Nat.lt_of_lt_of_le hbl hs, fun j u hu => ?_⟩
  rw [World.cell?_of_block (a := ⟨b, off + i * n + j, none⟩) (hb ⟨b, off, none⟩ e)]
  exact hr j u hu
theorem row_part {w : World} {b : Nat} {full : Array Value} {T : TypeId} {fr : Nat × Nat} (h : w.heap[b]? = some (.cells full T fr)) (o n : Nat) {cs : List Value} (hc : cs = (full.toList.drop o).take n) : w.rangeAt b o cs := by
  intro j u hu
  rw [hc, List.getElem?_take] at hu
  split at hu
  · rw [List.getElem?_drop, Array.getElem?_toList] at hu
    rw [cell_of_row _ _ _ _ _ _ h]
    exact hu
  · cases hu
theorem there_part {w : World} {b o n : Nat} {full : Array Value} {T : TypeId} (h : w.heap[b]? = some (.cells full T (0, 0))) (hn : o + n ≤ full.size) : w.there b o n := fun j hj => by
  refine ⟨?_, frozen_of_row _ _ _ _ _ h⟩
  rw [cell_of_row _ _ _ _ _ _ h, Array.getElem?_eq_getElem (by omega)]
  rfl
theorem wp_call_run {P : Program} {o : Oper} {a : Act} {w : World} {K : Act → World → Prop} {Q : Exit → Act → World → Prop} {f : FuncId} {args : Array Value} {post : Ending → World → Prop} (he : (execOp a.eval o).run P w = .ok (.enter f args) w) (hc : Calls P f args w post)
    (h : ∀ e w', post e w' → ∃ v, e = .returned v ∧ K (a.put o.dst v) w') : o.wp P a w K Q := by
  unfold Oper.wp
  rw [he]
  refine Calls.mono hc ?_
  rintro e w' hp
  obtain ⟨v, rfl, hk⟩ := h e w' hp
  exact hk
theorem wp_value_run {P : Program} {o : Oper} {a : Act} {w w' : World} {v : Value} {K : Act → World → Prop} {Q : Exit → Act → World → Prop} (he : (execOp a.eval o).run P w = .ok (.value v) w') (h : K (a.put o.dst v) w') : o.wp P a w K Q := by
  unfold Oper.wp
  rw [he]
  exact h
theorem below_grown2 {u u' : World} {x : Option Nat} (h : Below u.heap.size u u') : u.grownBy u' x := ⟨h.os, h.tape, h.output, h.size, fun k hk _ => h.block k hk⟩
theorem row_rangeG {w : World} {b : Nat} {t : TypeId} {cs : Array Value} (h : w.heap[b]? = some (.cells cs t (0, 0))) : w.rangeAt b 0 cs.toList := fun j v hj => by
  rw [Nat.zero_add, cell_of_row _ _ _ _ _ _ h]
  simpa using hj
end Go.Proofs.YtpfmfigommmjiaaDoor
