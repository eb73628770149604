/- What was read is what was written (old snapshots). -/
import Derived.Test.YtmdodcpmbhehdaaDoorMovePack
import Derived.Test.YtmdodcpmbhehdaaDoorScanW
namespace Go.Proofs.YtmdodcpmbhehdaaDoor
open Go.RowKit Plain
theorem imOf_inj {x y : It} (h : imOf x = imOf y) : x = y := by
  obtain ⟨a, b, c, d, e⟩ := x
  obtain ⟨a', b', c', d', e'⟩ := y
  simp only [imOf, Prod.mk.injEq] at h
  obtain ⟨h1, h2, h3, h4, h5⟩ := h
  rw [strN_inj h1, h2, h3, h4, strN_inj h5]
theorem imOfs_inj : ∀ {l m : List It}, l.map imOf = m.map imOf → l = m
  | [], [], _ => rfl
  | [], _ :: _, h => by simp at h
  | _ :: _, [], h => by simp at h
  | x :: l, y :: m, h => by
    simp only [List.map_cons, List.cons.injEq] at h
    rw [imOf_inj h.1, imOfs_inj h.2]
theorem one_same {o o' : OM} (h : olOf o = olOf o') (hk : OneOk o) (h0 : 0 ≤ o'.2.1) : OneOk o' ∧ o.1 = o'.1 ∧ o.2.1 = o'.2.1 ∧ o.2.2.2.2 = o'.2.2.2.2 := by
  simp only [olOf, Prod.mk.injEq] at h
  obtain ⟨h1, h2, h3⟩ := h
  have e1 := strN_inj h1
  have e3 := imOfs_inj h3
  have e2 : o.2.1 = o'.2.1 := by have := hk.2.1.1; omega
  exact ⟨⟨by rw [← e1]; exact hk.1, by rw [← e2]; exact hk.2.1, by rw [← e3]; exact hk.2.2⟩, e1, e2, e3⟩
theorem mv_same : ∀ {L O : List OM}, L.map olOf = O.map olOf → MvOk L → (∀ o ∈ O, 0 ≤ o.2.1) → MvOk O ∧ L.map (·.1) = O.map (·.1) := by
  have key : ∀ {L O : List OM}, L.map olOf = O.map olOf → (∀ o ∈ L, OneOk o) → (∀ o ∈ O, 0 ≤ o.2.1) → (∀ o ∈ O, OneOk o) ∧ L.map (·.1) = O.map (·.1) := by
    intro L
    induction L with
    | nil =>
      intro O h _ _
      cases O with
      | nil => exact ⟨by simp, rfl⟩
      | cons _ _ => simp at h
    | cons x L ih =>
      intro O h h1 h2
      cases O with
      | nil => simp at h
      | cons y O =>
        simp only [List.map_cons, List.cons.injEq] at h
        obtain ⟨g1, g2, _⟩ := one_same h.1 (h1 x (by simp)) (h2 y (by simp))
        obtain ⟨g3, g4⟩ := ih h.2 (fun o ho => h1 o (by simp [ho])) (fun o ho => h2 o (by simp [ho]))
        refine ⟨fun o ho => ?_, by simp only [List.map_cons]; rw [g2, g4]⟩
        rcases List.mem_cons.1 ho with rfl | ho
        · exact g1
        · exact g3 o ho
  intro L O h hk h0
  obtain ⟨k1, k2⟩ := key h hk.2.1 h0
  have hl : L.length = O.length := by have := congrArg List.length h; simpa using this
  exact ⟨⟨by rw [← hl]; exact hk.1, k1, by rw [← k2]; exact hk.2.2⟩, k2⟩
/-- so many read -/
def RdAs (rs : List ByteArray) (O : List OM) : Prop := ∀ (i : Nat) (h : i < O.length) (h' : i < rs.length), ∀ o' u, RdO (strN rs[i]) o' u → o' = olOf O[i]
theorem strNs_inj : ∀ {l m : List ByteArray}, l.map strN = m.map strN → l = m
  | [], [], _ => rfl
  | [], _ :: _, h => by simp at h
  | _ :: _, [], h => by simp at h
  | x :: l, y :: m, h => by
    simp only [List.map_cons, List.cons.injEq] at h
    rw [strN_inj h.1, strNs_inj h.2]
theorem move_back {s : List Nat} {rs : List ByteArray} {pp : Nat} {O L : List OM} {R : List ByteArray} (hs : Scan idf s (rs.map strN) pp) (has : RdAs rs O) (hl : O.length = rs.length) (h0 : ∀ o ∈ O, 0 ≤ o.2.1) (hk : MvOk L) (hr : RecsOf L R) (hb : ∀ o ∈ L, OlB (olOf o)) (hf : Frms idf (R.map strN) s) : MvOk O ∧ RecsOf O R ∧ R = rs ∧ L.map olOf = O.map olOf := by
  have e : R = rs := strNs_inj ((Frms.all idf_length hf).unique hs).1
  subst e
  have hlen : L.length = O.length := by rw [← hr.1, hl]
  have hm : L.map olOf = O.map olOf := by
    apply List.ext_getElem
    · simp [hlen]
    · intro i h1 h2
      have i1 : i < L.length := by simpa using h1
      have i2 : i < O.length := by simpa using h2
      have i3 : i < R.length := by rw [← hl]; exact i2
      simp only [List.getElem_map]
      exact has i i2 i3 _ _ ((hr.2 i i1 i3).rd (hb _ (List.getElem_mem i1)))
  refine ⟨(mv_same hm hk h0).1, ⟨hl.symm, fun i i2 i3 => ?_⟩, rfl, hm⟩
  have i1 : i < L.length := by omega
  have e2 : olOf L[i] = olOf O[i] := by
    have := List.getElem_of_eq hm (i := i) (by simpa using i1)
    simpa using this
  rw [← e2]
  exact hr.2 i i1 i3
end Go.Proofs.YtmdodcpmbhehdaaDoor
