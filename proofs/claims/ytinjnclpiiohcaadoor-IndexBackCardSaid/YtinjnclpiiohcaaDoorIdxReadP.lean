/- Plain laws for the walk of index.Read: numbers read one behind the other; a whole index read. -/
import Derived.Test.YtinjnclpiiohcaaDoorIdxText
import Derived.Test.YtinjnclpiiohcaaDoorPlEq
namespace Go.Proofs.YtinjnclpiiohcaaDoor
open Go.RowKit Plain
namespace Plain
/-- numbers read one behind the other -/
inductive Ms : List Nat → List Nat → List Nat → Prop
  | nil {s : List Nat} : Ms s [] s
  | snoc {s u t vs : List Nat} {n : Nat} : Ms s vs u → getM u = some (n, t) → Ms s (vs ++ [n]) t
theorem Ms.inv {s vs t : List Nat} (h : Ms s vs t) : (vs = [] ∧ s = t) ∨ ∃ us n u, vs = us ++ [n] ∧ Ms s us u ∧ getM u = some (n, t) := by
  cases h with
  | nil => exact .inl ⟨rfl, rfl⟩
  | snoc h1 h2 => exact .inr ⟨_, _, _, rfl, h1, h2⟩
theorem Ms.zero {s t : List Nat} (h : Ms s [] t) : s = t := by
  rcases h.inv with ⟨_, h⟩ | ⟨us, n, u, e, _⟩
  · exact h
  · simp at e
theorem Ms.one {s t : List Nat} {a : Nat} (h : Ms s [a] t) : getM s = some (a, t) := by
  rcases h.inv with ⟨e, _⟩ | ⟨us, n, u, e, h1, h2⟩
  · simp at e
  · obtain ⟨rfl, e2⟩ := List.append_inj' (s₁ := []) e rfl
    injection e2 with e2 _
    subst e2
    rw [h1.zero]; exact h2
theorem Ms.two {s t : List Nat} {a b : Nat} (h : Ms s [a, b] t) : ∃ u, getM s = some (a, u) ∧ getM u = some (b, t) := by
  rcases h.inv with ⟨e, _⟩ | ⟨us, n, u, e, h1, h2⟩
  · simp at e
  · obtain ⟨rfl, e2⟩ := List.append_inj' (s₁ := [a]) e rfl
    injection e2 with e2 _
    subst e2
    exact ⟨u, h1.one, h2⟩
theorem Ms.three {s t : List Nat} {a b c : Nat} (h : Ms s [a, b, c] t) : ∃ u v, getM s = some (a, u) ∧ getM u = some (b, v) ∧ getM v = some (c, t) := by
  rcases h.inv with ⟨e, _⟩ | ⟨us, n, u, e, h1, h2⟩
  · simp at e
  · obtain ⟨rfl, e2⟩ := List.append_inj' (s₁ := [a, b]) e rfl
    injection e2 with e2 _
    subst e2
    obtain ⟨x, g1, g2⟩ := h1.two
    exact ⟨x, u, g1, g2, h2⟩
theorem Ms.getR {u t : List Nat} {a b c : Nat} (h9 : 9 ≤ u.length) (h : Ms (u.drop 9) [a, b, c] t) : getR u = some ((u.take 8, u.getD 8 0, a, b, c), t) := by
  obtain ⟨x, y, h1, h2, h3⟩ := h.three
  unfold Plain.getR
  rw [if_neg (by omega), h1]
  simp only
  rw [h2]
  simp only
  rw [h3]
theorem Ms.none {u v vs : List Nat} (h9 : 9 ≤ u.length) (h : Ms (u.drop 9) vs v) (hl : vs.length < 3) (hn : getM v = none) : Plain.getR u = none := by
  unfold Plain.getR
  rw [if_neg (by omega)]
  match vs, hl with
  | [], _ => rw [h.zero, hn]
  | [a], _ => rw [h.one]; simp only; rw [hn]
  | [a, b], _ =>
    obtain ⟨x, h1, h2⟩ := h.two
    rw [h1]; simp only
    rw [h2]; simp only
    rw [hn]
theorem Encs.unique : ∀ {l : List Rec} {t u : List Nat}, Encs l t → Encs l u → t = u := by
  have key : ∀ {m : List Rec} {t : List Nat}, Encs m t → (m = [] ∧ t = []) ∨ ∃ l r u f, m = l ++ [r] ∧ t = u ++ f ∧ Encs l u ∧ Enc r f := by
    intro m t h
    cases h with
    | nil => exact .inl ⟨rfl, rfl⟩
    | snoc h1 h2 => exact .inr ⟨_, _, _, _, rfl, rfl, h1, h2⟩
  intro l
  induction hn : l.length generalizing l with
  | zero =>
    intro t u h g
    obtain rfl := List.eq_nil_of_length_eq_zero hn
    rcases key h with ⟨_, rfl⟩ | ⟨x, y, _, _, e, _⟩
    · rcases key g with ⟨_, rfl⟩ | ⟨x, y, _, _, e, _⟩
      · rfl
      · simp at e
    · simp at e
  | succ n ih =>
    intro t u h g
    rcases key h with ⟨rfl, _⟩ | ⟨x, y, a, b, rfl, rfl, h1, h2⟩
    · simp at hn
    · rcases key g with ⟨e, _⟩ | ⟨x', y', a', b', e, rfl, g1, g2⟩
      · simp at e
      · obtain ⟨rfl, e2⟩ := List.append_inj' e rfl
        injection e2 with e2 _
        subst e2
        rw [ih (by simpa using hn) h1 g1, h2.unique g2]
end Plain
/-- an index read whole -/
def Rdx (s : List Nat) (l : List Pl) : Prop := ∃ k, getN s = (l.length, k, 0) ∧ l.length ≤ 400 ∧ Rds l.length (s.drop k) (l.map recOf) []
theorem recOf_inj' : ∀ {l m : List Pl}, (∀ p ∈ l, rOk p.2.1 ∧ rOk p.2.2.1 ∧ rOk p.2.2.2.1 ∧ rOk p.2.2.2.2) → (∀ p ∈ m, rOk p.2.1 ∧ rOk p.2.2.1 ∧ rOk p.2.2.2.1 ∧ rOk p.2.2.2.2) → l.map recOf = m.map recOf → l = m
  | [], [], _, _, _ => rfl
  | [], _ :: _, _, _, h => by simp at h
  | _ :: _, [], _, _, h => by simp at h
  | p :: l, q :: m, hl, hm, h => by
    rw [List.map_cons, List.map_cons] at h
    injection h with h1 h2
    rw [recOf_inj' (fun p hp => hl p (List.mem_cons_of_mem _ hp)) (fun p hp => hm p (List.mem_cons_of_mem _ hp)) h2]
    obtain ⟨i, k, a, b, c⟩ := p
    obtain ⟨i', k', a', b', c'⟩ := q
    obtain ⟨p1, p2, p3, p4⟩ := hl _ List.mem_cons_self
    obtain ⟨q1, q2, q3, q4⟩ := hm _ List.mem_cons_self
    simp only [rOk] at p1 p2 p3 p4 q1 q2 q3 q4
    simp only [recOf, Prod.mk.injEq] at h1
    obtain ⟨e1, e2, e3, e4, e5⟩ := h1
    have := idL_inj.1 e1
    subst this
    obtain rfl : k = k' := by omega
    obtain rfl : a = a' := by omega
    obtain rfl : b = b' := by omega
    obtain rfl : c = c' := by omega
    rfl
theorem recOf_inj : ∀ {l m : List Pl}, (∀ p ∈ l, pOk p) → (∀ p ∈ m, pOk p) → l.map recOf = m.map recOf → l = m
  | [], [], _, _, _ => rfl
  | [], _ :: _, _, _, h => by simp at h
  | _ :: _, [], _, _, h => by simp at h
  | p :: l, q :: m, hl, hm, h => by
    rw [List.map_cons, List.map_cons] at h
    injection h with h1 h2
    rw [recOf_inj (fun p hp => hl p (List.mem_cons_of_mem _ hp)) (fun p hp => hm p (List.mem_cons_of_mem _ hp)) h2]
    obtain ⟨i, k, a, b, c⟩ := p
    obtain ⟨i', k', a', b', c'⟩ := q
    obtain ⟨p1, p2, p3, p4⟩ := hl _ List.mem_cons_self
    obtain ⟨q1, q2, q3, q4⟩ := hm _ List.mem_cons_self
    simp only [kOk, rOk] at p1 p2 p3 p4 q1 q2 q3 q4
    simp only [recOf, Prod.mk.injEq] at h1
    obtain ⟨e1, e2, e3, e4, e5⟩ := h1
    have := idL_inj.1 e1
    subst this
    obtain rfl : k = k' := by omega
    obtain rfl : a = a' := by omega
    obtain rfl : b = b' := by omega
    obtain rfl : c = c' := by omega
    rfl
theorem Rdx.unique {s : List Nat} {l m : List Pl} (h : Rdx s l) (g : Rdx s m) (hl : xOk l) (hm : xOk m) : l = m := by
  obtain ⟨k, h1, _, h2⟩ := h
  obtain ⟨k', g1, _, g2⟩ := g
  rw [h1] at g1
  injection g1 with e1 e2
  injection e2 with e2 _
  subst e2
  rw [← e1] at g2
  exact recOf_inj hl.2.1 hm.2.1 (h2.unique g2).1
theorem TxI.rdx {l : List Pl} {t : ByteArray} (h : TxI l l.length t) (ho : xOk l) : Rdx (strN t) l := by
  obtain ⟨a, f, h1, h2, h3⟩ := h
  rw [List.take_length] at h2
  rw [h3]
  refine ⟨a.length, getN_num h1 f, ho.1, ?_⟩
  rw [List.drop_left]
  have := h2.rds (fun r hr => by
    simp only [List.mem_map] at hr
    obtain ⟨p, hp, rfl⟩ := hr
    obtain ⟨_, q2, q3, q4⟩ := ho.2.1 p hp
    simp only [rOk] at q2 q3 q4
    refine ⟨?_, ?_, ?_⟩ <;> simp only [recOf] <;> omega) []
  rwa [List.append_nil, List.length_map] at this
theorem Rdx.tx {l : List Pl} {s u : ByteArray} (h : Rdx (strN s) l) (g : TxI l l.length u) : u = s := by
  obtain ⟨k, h1, _, h2⟩ := h
  obtain ⟨a, f, g1, g2, g3⟩ := g
  rw [List.take_length] at g2
  obtain ⟨_, h3⟩ := getN_back (strN_lt s) h1
  obtain ⟨f', h4, h5, _⟩ := h2.encs (fun c hc => strN_lt s c (List.mem_of_mem_drop hc))
  apply strN_inj
  rw [g3, g1.unique h3, g2.unique h4]
  conv => rhs; rw [← List.take_append_drop k (strN s), h5, List.append_nil]
/-- a place under way: three numbers to come -/
def pR (t : ID8) (k : Nat) (vs : List Nat) : List Value := (idL t).map bV ++ (.int .i64 (k : Int) :: (vs.map (fun n : Nat => Value.int .i64 (n : Int)) ++ List.replicate (3 - vs.length) (.int .i64 0)))
theorem pR_length (t : ID8) (k : Nat) (vs : List Nat) (h : vs.length ≤ 3) : (pR t k vs).length = 12 := by
  simp [pR, idL]; omega
theorem pR_one (t : ID8) (k : Nat) (vs : List Nat) : ∀ v ∈ pR t k vs, v.oneCell' = true := by
  intro v hv
  unfold pR at hv
  rcases List.mem_append.1 hv with h | h
  · simp only [List.mem_map] at h
    obtain ⟨c, _, rfl⟩ := h
    rfl
  · rcases List.mem_cons.1 h with rfl | h
    · rfl
    · rcases List.mem_append.1 h with h | h
      · simp only [List.mem_map] at h
        obtain ⟨c, _, rfl⟩ := h
        rfl
      · rw [List.mem_replicate] at h
        rw [h.2]
        rfl
theorem pR_set (t : ID8) (k n : Nat) (vs : List Nat) (h : vs.length < 3) : (pR t k vs).toArray.setIfInBounds (9 + vs.length) (.int .i64 (n : Int)) = (pR t k (vs ++ [n])).toArray := by
  match vs, h with
  | [], _ => rfl
  | [a], _ => rfl
  | [a, b], _ => rfl
theorem pR_full (t : ID8) (k a b c : Nat) : pR t k [a, b, c] = plC (t, (k : Int), (a : Int), (b : Int), (c : Int)) := rfl
theorem row_setCell {w : World} {B : Nat} {C : Array Value} {t : TypeId} (h : w.heap[B]? = some (.cells C t (0, 0))) (i : Nat) (v : Value) : (w.setCell ⟨B, i, none⟩ v).heap[B]? = some (.cells (C.setIfInBounds i v) t (0, 0)) := by
  simp [World.setCell, Array.getElem?_modify, h]
theorem heap_setCell_other {w : World} {B C : Nat} (h : B ≠ C) (i : Nat) (v : Value) : (w.setCell ⟨B, i, none⟩ v).heap[C]? = w.heap[C]? := by
  simp [World.setCell, Array.getElem?_modify, h]
end Go.Proofs.YtinjnclpiiohcaaDoor
