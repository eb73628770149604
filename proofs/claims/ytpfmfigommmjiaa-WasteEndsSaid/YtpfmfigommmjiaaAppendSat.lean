/- 'append(out, xs...)': a list's elements appended to a row of the call's own, wherever they lie; nil and empty let in. -/
import Derived.Test.YtpfmfigommmjiaaSlices
import Derived.Test.YtpfmfigommmjiaaAppend
import Derived.Deep.RegionHeld3
namespace Go.Proofs.Ytpfmfigommmjiaa
open Go.RowKit
section
variable {P : Program} {w : World}
theorem run_append_nil (base : Nat) (t ty e : TypeId) (i : TypeInfo) (size : Nat) (ht : P.underlying t = some (.slice e)) (hi : P.info? e = some i)
    (v : Value) (n : Nat) (xs : List Value) (hown : w.ownsRow base e size v n xs) (c : Nat) : (Builtin.append_ #[t, t] ty #[v, .slice none 0 c]).run P w = .ok v w := by
  rcases hown.2 with ⟨rfl, rfl⟩ | ⟨g, cap, cur, rfl, _, _, hnc, _⟩
  · simp [Builtin.append_, run_underlying ht, sizeOf, typeInfo, hi, Builtin.lenOf, Builtin.firstCells]
  · simp [Builtin.append_, run_underlying ht, sizeOf, typeInfo, hi, Builtin.lenOf, Builtin.firstCells, hnc, storeCells]
theorem sat_cells {α : Type} {size : Nat} {cf : α → List Value} {g off : Nat} {l : List α} (hsz : 0 < size) (hc : ∀ y, (cf y).length = size) (h : SAt size cf w (some ⟨g, off, none⟩) l) : ∀ j u, (l.flatMap cf)[j]? = some u → w.cell? ((⟨g, off, none⟩ : Addr).add j) = some u := by
  intro j u hu
  have hj : j < l.length * size := by
    rcases Nat.lt_or_ge j (l.length * size) with h | h
    · exact h
    · rw [List.getElem?_eq_none (by rw [flat_length hc]; exact h)] at hu; cases hu
  have hi : j / size < l.length := (Nat.div_lt_iff_lt_mul hsz).2 hj
  have hr : j % size < size := Nat.mod_lt _ hsz
  have hd : j / size * size + j % size = j := by rw [Nat.mul_comm]; exact Nat.div_add_mod j size
  obtain ⟨g', off', e, _, hcell⟩ := h (j / size) hi
  injection e with e
  injection e with e1 e2 _
  subst e1 e2
  rw [Addr.add_mid]
  have hu2 := hu
  rw [← hd, flat_get hc l (j / size) (j % size) hi hr] at hu2
  have := hcell (j % size) u hu2
  rwa [Nat.add_assoc, hd] at this
theorem wpList_append_sat {ops : Array Oper} {rest : List Oper} {o : Oper} {a : Act} {Q : Exit → Act → World → Prop} (hgd : o.guard = none) (s x : Operand) (t : TypeId)
    (ho : o.op = .call { callee := .builtin .append, args := #[s, x], argTypes := #[t, t] })
    (base : Nat) (e : TypeId) (i : TypeInfo) (z : Value) (size bytes : Nat) (ht : P.underlying t = some (.slice e)) (hi : P.info? e = some i) (hz : i.zero = some z)
    (hsize : i.size = size) (hby : i.bytes = bytes) (hzs : z.cells.size = size) (hsz : 0 < size)
    (v : Value) (n : Nat) (xs : List Value) (hs : a.eval s = v) (hown : w.ownsRow base e size v n xs)
    {α : Type} {cf : α → List Value} (A : Option Addr) (c : Nat) (l : List α) (hx : a.eval x = .slice A l.length c) (hl : SAt size cf w A l) (hc : ∀ y, (cf y).length = size) (h1 : ∀ y, ∀ u ∈ cf y, u.oneCell' = true)
    (h63 : n + l.length ≤ maxLen) (hbytes : (n + l.length) * bytes ≤ 140737488355328) (hbase : base ≤ w.heap.size)
    (h : ∀ v' w', w'.ownsRow base e size v' (n + l.length) (xs ++ l.flatMap cf) → w.grownBy w' v.ownBlock → wpList P ops Q rest (a.put o.dst v') w') : wpList P ops Q (o :: rest) a w := by
  rcases A with _ | ad
  · have hn : l = [] := by
      cases l with
      | nil => rfl
      | cons y l => obtain ⟨g, off, e, _⟩ := hl 0 (by simp); cases e
    subst hn
    refine wpList_plain hgd fun K hK => ?_
    have hrun := run_append_nil (P := P) (w := w) base t o.type e i size ht hi v n xs hown c
    unfold Oper.wp
    have hx' : a.eval x = .slice none 0 c := hx
    simp [execOp, ho, resolve, invoke, builtin, hs, hx', hrun, Result.andThen]
    exact hK _ _ (h v w (by simpa using hown) (World.grownBy.refl w _))
  · by_cases h0 : l = []
    · subst h0
      exact wpList_append_own w hgd s x t ho base e i z size bytes ht hi hz hsize hby hzs hsz v n xs hs hown ad 0 c [] hx (by simp) (by simp) (by simp) h63 hbytes hbase fun v' w' h2 h3 _ => h v' w' h2 h3
    · obtain ⟨g, off, e', _, _⟩ := hl 0 (List.length_pos_iff.2 h0)
      injection e' with e'
      subst e'
      exact wpList_append_own w hgd s x t ho base e i z size bytes ht hi hz hsize hby hzs hsz v n xs hs hown ⟨g, off, none⟩ l.length c (l.flatMap cf) hx (flat_length hc l) (sat_cells hsz hc hl) (fun u hu => by
        obtain ⟨y, _, hu⟩ := List.mem_flatMap.1 hu
        exact h1 y u hu) h63 hbytes hbase fun v' w' h2 h3 _ => h v' w' h2 h3
/-- an owned row cut at its end -/
theorem own_cut {base : Nat} {e : TypeId} {size n m c : Nat} {a : Option Addr} {xs : List Value} (h : w.ownsRow base e size (.slice a n c) n xs) (hm : m ≤ n) (ha : 0 < n) : w.ownsRow base e size (.slice a m c) m (xs.take (m * size)) := by
  obtain ⟨h1, h2⟩ := h
  rcases h2 with ⟨_, h3⟩ | ⟨g, cap, cur, hv, hb, hg, h3, h4, h5, h6⟩
  · omega
  · injection hv with hv1 _ hv3
    subst hv1 hv3
    have hle : m * size ≤ n * size := Nat.mul_le_mul_right _ hm
    refine ⟨by rw [List.length_take, h1]; exact Nat.min_eq_left hle, .inr ⟨g, c, cur, rfl, hb, hg, by omega, h4, h5, ?_⟩⟩
    rw [← h6, List.take_take, Nat.min_eq_left hle]
end
end Go.Proofs.Ytpfmfigommmjiaa
