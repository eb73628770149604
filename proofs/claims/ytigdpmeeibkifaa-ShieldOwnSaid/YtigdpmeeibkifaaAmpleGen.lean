/- General laws on rows that are filled behind their end (ample), compared (stays) and spoiled. -/
import Derived.Test.YtigdpmeeibkifaaAmpleBase
import Derived.Test.YtigdpmeeibkifaaDrawn
import Derived.Test.YtigdpmeeibkifaaStoreNew
import Derived.Test.YtigdpmeeibkifaaOwnForm
namespace Go.Proofs.Ytigdpmeeibkifaa
open Go.RowKit
set_option linter.unusedVariables false
set_option linter.unusedSimpArgs false
def AmEnd {α : Type} (c : α → List Value) (z : List Value) (t : TypeId) (l : List α) (f : α) (w0 : World) (e : Ending) (w : World) : Prop := ∃ g, e = .returned (.slice (some ⟨g, 0, none⟩) l.length (l.length + 3)) ∧ w0.heap.size ≤ g ∧ Amp c z t w g l f ∧ Below w0.heap.size w0 w
def SpEnd (g : Nat) (t : TypeId) (n : Nat) (w0 : World) (e : Ending) (w : World) : Prop := e = .returned (.tuple #[]) ∧ w0.grownBy w (some g) ∧ ∃ cs, w.heap[g]? = some (.cells cs t (0, 0)) ∧ cs.size = n
theorem grown_set {w0 w : World} {g : Nat} (h : w0.grownBy w (some g)) (i : Nat) (v : Value) : w0.grownBy (w.setCell ⟨g, i, none⟩ v) (some g) := by
  refine ⟨h.os, h.tape, h.output, ?_, fun k hk hne => ?_⟩
  · have : (w.setCell ⟨g, i, none⟩ v).heap.size = w.heap.size := by simp [World.setCell]
    rw [this]; exact h.size
  · rw [heap_setCell_other w ⟨g, i, none⟩ k v (fun e => hne (by rw [e]))]
    exact h.block k hk hne
theorem grown_refl (w : World) (r : Option Nat) : w.grownBy w r := ⟨rfl, rfl, rfl, Nat.le_refl _, fun _ _ _ => rfl⟩
theorem wp_append_roomK {P : Program} {w : World} {o : Oper} {a : Act} {K : Act → World → Prop} {Q : Exit → Act → World → Prop} (s x : Operand) (t tx : TypeId) (hop : o.op = Op.call { callee := Callee.builtin Builtin.append, args := #[s, x], argTypes := #[t, tx] })
    (e : TypeId) (i : TypeInfo) (size : Nat) (ht : P.underlying t = some (.slice e)) (hi : P.info? e = some i) (hsz : i.size = size)
    (b off sLen sCap : Nat) (hs : a.eval s = .slice (some ⟨b, off, none⟩) sLen sCap) (xv : Value) (hx : a.eval x = xv) (n : Nat) (news : List Value) (hsrc : Src P size tx xv n news w)
    (hroom : sLen + n ≤ sCap) (hc : ∀ j, j < news.length → (w.cell? ⟨b, off + sLen * size + j, none⟩).isSome = true) (hf : ∀ j, j < news.length → w.frozen? ⟨b, off + sLen * size + j, none⟩ = false)
    (hK : K (a.put o.dst (.slice (some ⟨b, off, none⟩) (sLen + n) sCap)) (w.setCells b (off + sLen * size) news)) : o.wp P a w K Q := by
  subst hsz
  have hrun := run_append_room_src (P := P) (w := w) t tx o.type e i ht hi b off sLen sCap xv n news hsrc hroom hc hf
  unfold Oper.wp
  simp [execOp, hop, resolve, invoke, builtin, hs, hx, hrun, Result.andThen]
  exact hK
theorem cells_of {w : World} {b : Nat} {t : TypeId} {cs : Array Value} (h : w.heap[b]? = some (.cells cs t (0, 0))) (news : List Value) (hn : news = cs.toList) : ∀ (j : Nat) (u : Value), news[j]? = some u → w.cell? ((⟨b, 0, none⟩ : Addr).add j) = some u := by
  intro j u hj
  subst hn
  rw [Addr.add_lit, Nat.zero_add, cell_of_row _ _ _ _ _ _ h]
  simpa using hj
/-- the row made, filled, and what is filled in at its end -/
theorem amp_steps {α : Type} {n : Nat} {c : α → List Value} (hc : ∀ y, (c y).length = n) {t : TypeId} {z : α} {l : List α} {f : α} {B : Nat} {u : World} (h : u.heap[B]? = some (.cells ((List.replicate (l.length + 3) z).flatMap c).toArray t (0, 0))) :
    (∀ j, j < (l.flatMap c).length → (u.cell? ⟨B, 0 + 0 * n + j, none⟩).isSome = true) ∧ (∀ j, j < (l.flatMap c).length → u.frozen? ⟨B, 0 + 0 * n + j, none⟩ = false) ∧
    (u.setCells B (0 + 0 * n) (l.flatMap c)).heap[B]? = some (.cells (l.flatMap c ++ (List.replicate 3 z).flatMap c).toArray t (0, 0)) := by
  have hfl : (l.flatMap c).length = l.length * n := flat_length hc l
  have e : (List.replicate (l.length + 3) z).flatMap c = [] ++ (List.replicate l.length z).flatMap c ++ (List.replicate 3 z).flatMap c := by
    rw [List.nil_append, ← List.flatMap_append, List.replicate_append_replicate]
  have hz : ((List.replicate (l.length + 3) z).flatMap c).length = (l.length + 3) * n := by rw [flat_length hc, List.length_replicate]
  have hi := row_is h 0 (l.length * n) (by rw [List.size_toArray, hz, Nat.add_mul]; omega)
  refine ⟨fun j hj => ?_, fun j hj => ?_, ?_⟩
  · rw [Nat.zero_mul, Nat.add_zero]; exact hi.1 j (by omega)
  · rw [Nat.zero_mul, Nat.add_zero]; exact hi.2 j (by omega)
  · rw [e] at h
    have := row_mid [] _ _ (l.flatMap c) h (by rw [hfl, flat_length hc, List.length_replicate])
    rw [Nat.zero_mul]
    simpa using this
theorem amp_steps2 {α : Type} {n : Nat} {c : α → List Value} (hc : ∀ y, (c y).length = n) {t : TypeId} {z : α} {l : List α} {f : α} {B : Nat} {u : World} (h : u.heap[B]? = some (.cells (l.flatMap c ++ (List.replicate 3 z).flatMap c).toArray t (0, 0))) :
    (∀ j, j < (c f ++ c f).length → (u.cell? ⟨B, 0 + (0 + l.length) * n + j, none⟩).isSome = true) ∧ (∀ j, j < (c f ++ c f).length → u.frozen? ⟨B, 0 + (0 + l.length) * n + j, none⟩ = false) ∧
    Amp c (c z) t (u.setCells B (0 + (0 + l.length) * n) (c f ++ c f)) B l f := by
  have hfl : (l.flatMap c).length = l.length * n := flat_length hc l
  have h2 : (c f ++ c f).length = 2 * n := by rw [List.length_append, hc]; omega
  have hi := row_is h (l.length * n) (2 * n) (by rw [List.size_toArray, List.length_append, hfl, flat_length hc, List.length_replicate]; omega)
  have e : (List.replicate 3 z).flatMap c = (c z ++ c z) ++ c z := by simp [List.replicate]
  rw [h2]
  refine ⟨fun j hj => ?_, fun j hj => ?_, ?_⟩
  · rw [Nat.zero_add, Nat.zero_add]; exact hi.1 j hj
  · rw [Nat.zero_add, Nat.zero_add]; exact hi.2 j hj
  · rw [e, ← List.append_assoc] at h
    have := row_mid (l.flatMap c) (c z ++ c z) (c z) (c f ++ c f) h (by simp [hc])
    rw [hfl] at this
    unfold Amp
    rw [Nat.zero_add, Nat.zero_add]
    exact this
theorem grown_setCells {w0 w : World} {g : Nat} (h : w0.grownBy w (some g)) (o : Nat) (vs : List Value) : w0.grownBy (w.setCells g o vs) (some g) := by
  have hf := setCells_frame g vs o w
  refine ⟨?_, ?_, ?_, ?_, fun k hk hne => ?_⟩
  · rw [hf.1]; exact h.os
  · rw [hf.1]; exact h.tape
  · rw [hf.1]; exact h.output
  · rw [hf.2]; exact h.size
  · rw [heap_setCells_other g k (fun e => hne (by rw [e])) vs o w]
    exact h.block k hk hne
theorem there_rowO {w : World} {b : Nat} {t : TypeId} {cs : Array Value} (h : w.heap[b]? = some (.cells cs t (0, 0))) (o n : Nat) (hn : o + n ≤ cs.size) : w.there b o n := fun j hj => by
  refine ⟨?_, frozen_of_row _ _ _ _ _ h⟩
  rw [cell_of_row _ _ _ _ _ _ h, Array.getElem?_eq_getElem (by omega)]
  rfl
theorem row_rangeA {w : World} {b : Nat} {t : TypeId} {cs : Array Value} (h : w.heap[b]? = some (.cells cs t (0, 0))) : w.rangeAt b 0 cs.toList := fun j v hj => by
  rw [Nat.zero_add, cell_of_row _ _ _ _ _ _ h]
  simpa using hj
theorem made_flat {α : Type} {n : Nat} {c : α → List Value} (hc : ∀ y, (c y).length = n) (hn : 0 < n) (z : α) (m : Nat) : madeCells (c z).toArray (m * n) = ((List.replicate m z).flatMap c).toArray := by
  apply Array.ext_getElem?
  intro k
  have hl : (List.replicate m z).length = m := List.length_replicate
  by_cases hk : k < m * n
  · have hm : k / n < (List.replicate m z).length := by rw [hl]; exact Nat.div_lt_of_lt_mul (by rw [Nat.mul_comm]; exact hk)
    have hj : k % n < n := Nat.mod_lt _ hn
    have h1 := flat_get hc (List.replicate m z) (k / n) (k % n) hm hj
    have hd : k / n * n + k % n = k := by rw [Nat.mul_comm]; exact Nat.div_add_mod k n
    rw [hd, List.getElem_replicate] at h1
    have hR : (((List.replicate m z).flatMap c).toArray)[k]? = (c z)[k % n]? := by rw [List.getElem?_toArray, h1]
    rw [hR]
    have hs : (c z).toArray.size = n := by simp [hc]
    have hj' : k % n < (c z).length := by rw [hc]; exact hj
    simp only [madeCells, Array.getElem?_map, Array.getElem?_range, hk, if_true, Option.map_some, hs]
    rw [List.getElem?_eq_getElem hj', getElem!_pos (c z).toArray (k % n) (by simpa using hj')]
    simp
  · have hR : (((List.replicate m z).flatMap c).toArray)[k]? = none := by rw [List.getElem?_toArray, List.getElem?_eq_none (by rw [flat_length hc, hl]; omega)]
    rw [hR, Array.getElem?_eq_none (by rw [size_madeCells]; omega)]
/-- a call comes up, alone -/
theorem take_call {P : Program} {ops : Array Oper} {Q : Exit → Act → World → Prop} {md : Region.Mode} {S : World → Prop} {fuel : Nat} {listed : Array Bool} {l : List Value} {df : List Deferred} {w : World} (i : Nat) {oi : Oper} {d : Nat} {f : FuncId} {args : Array Value} (v : Value)
    (hr : Region.ready md ops listed = [i]) (hi : ops[i]? = some oi) (hw : Region.wanted oi (yielded ops l.toArray) = true) (hd : oi.dst = some d)
    (he : (execOp (Act.mk l.toArray df).eval oi).run P w = .ok (.enter f args) w) (hc : Calls P f args w fun e w' => e = .returned v ∧ S w')
    (h : ∀ w', S w' → wpAnyH P md ops Q S fuel (listed.setIfInBounds i true) ⟨(l.set d v).toArray, df⟩ w') : wpAnyH P md ops Q S (fuel + 1) listed ⟨l.toArray, df⟩ w := by
  refine one_ready i hr hi hw (fun K' hK => ?_)
  unfold Oper.wp
  rw [he]
  refine Calls.mono hc ?_
  rintro e w' ⟨rfl, h1⟩
  refine hK.out _ _ h1 ?_
  have h2 := h w' h1
  simpa only [hd, Act.put, List.setIfInBounds_toArray] using h2
end Go.Proofs.Ytigdpmeeibkifaa
