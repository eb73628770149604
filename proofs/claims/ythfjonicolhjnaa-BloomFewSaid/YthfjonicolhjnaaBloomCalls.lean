/- The law BloomJoins: its walk. -/
import Derived.Test.YthfjonicolhjnaaOpenArr
import Derived.Test.YthfjonicolhjnaaDrawn
namespace Go.Proofs.Ythfjonicolhjnaa
open Go.RowKit Plain
theorem join2 (l m : List Nat) (B cap : Nat) (w : World) (hl : IsB l) (hm : IsB m) (hB : w.heap[B]? = some (.cells (uC (l ++ m)) 24 (0, 0))) :
    Calls Try.prog 16 #[.slice (some ⟨B, 0, none⟩) 2 cap] w fun e w' => e = .returned (.agg (uC (bjoin l m))) ∧ Below w.heap.size w w' := by
  refine (join_any [l, m] B cap w (by intro x hx; simp at hx; rcases hx with rfl | rfl <;> assumption) (by simp) (by simpa using hB)).mono ?_
  rintro e w2 ⟨rfl, hb⟩
  refine ⟨?_, hb⟩
  simp only [List.foldl]
  rw [bjoin_zeros hl]
theorem join3 (l m k : List Nat) (B cap : Nat) (w : World) (hl : IsB l) (hm : IsB m) (hk : IsB k) (hB : w.heap[B]? = some (.cells (uC (l ++ (m ++ k))) 24 (0, 0))) :
    Calls Try.prog 16 #[.slice (some ⟨B, 0, none⟩) 3 cap] w fun e w' => e = .returned (.agg (uC (bjoin (bjoin l m) k))) ∧ Below w.heap.size w w' := by
  refine (join_any [l, m, k] B cap w (by intro x hx; simp at hx; rcases hx with rfl | rfl | rfl <;> assumption) (by simp) (by simpa using hB)).mono ?_
  rintro e w2 ⟨rfl, hb⟩
  refine ⟨?_, hb⟩
  simp only [List.foldl]
  rw [bjoin_zeros hl]
theorem run_bs2 (l m : List Nat) (w : World) (hl : IsB l) (hm : IsB m) : (Instr.buildSlice 62 2 #[(0, .agg (uC l)), (1, .agg (uC m))]).run Try.prog w = .ok (.slice (some ⟨w.heap.size, 0, none⟩) 2 2) (w.alloc (.cells (uC (l ++ m)) 24)) := by
  have h := run_buildSlice_words (P := Try.prog) w 62 24 (List.replicate 16 0) [l, m] Try.underlying62 (fun u => by kernel_rfl) (by kernel_rfl) (by intro x hx; simp at hx; rcases hx with rfl | rfl <;> exact (And.left (by assumption))) (by simp) (by simp)
  simp only [List.flatten_cons, List.flatten_nil, List.append_nil] at h
  exact h
theorem run_bs3 (l m k : List Nat) (w : World) (hl : IsB l) (hm : IsB m) (hk : IsB k) : (Instr.buildSlice 62 3 #[(0, .agg (uC l)), (1, .agg (uC m)), (2, .agg (uC k))]).run Try.prog w = .ok (.slice (some ⟨w.heap.size, 0, none⟩) 3 3) (w.alloc (.cells (uC (l ++ (m ++ k))) 24)) := by
  have h := run_buildSlice_words (P := Try.prog) w 62 24 (List.replicate 16 0) [l, m, k] Try.underlying62 (fun u => by kernel_rfl) (by kernel_rfl) (by intro x hx; simp at hx; rcases hx with rfl | rfl | rfl <;> exact (And.left (by assumption))) (by simp) (by simp)
  simp only [List.flatten_cons, List.flatten_nil, List.append_nil] at h
  exact h
theorem add_any (l a : List Nat) (w : World) (hl : IsB l) (ha : a.length = 8) (hb : ∀ c ∈ a, c < 256) :
    Calls Try.prog 14 #[.agg (uC l), .agg (idC a)] w fun e w' => e = .returned (.agg (uC (badd l (bpos a 0) (bpos a 1) (bpos a 2) (bpos a 3)))) ∧ Below w.heap.size w w' := by
  refine (add_aux l a (bpos a 0) (bpos a 1) (bpos a 2) (bpos a 3) w hl.1 ha (Nat.mod_lt _ (by decide)) (Nat.mod_lt _ (by decide)) (Nat.mod_lt _ (by decide)) (Nat.mod_lt _ (by decide)) hl.2 (Lib.hid fun wx => pos_any a wx ha hb)).mono ?_
  rintro e w2 ⟨rfl, hb⟩
  exact ⟨rfl, hb⟩
theorem has_any (l a : List Nat) (w : World) (hl : IsB l) (ha : a.length = 8) (hb : ∀ c ∈ a, c < 256) :
    Calls Try.prog 15 #[.agg (uC l), .agg (idC a)] w fun e w' => e = .returned (.bool (bitb l (bpos a 0) && bitb l (bpos a 1) && bitb l (bpos a 2) && bitb l (bpos a 3))) ∧ Below w.heap.size w w' :=
  has_aux l a (bpos a 0) (bpos a 1) (bpos a 2) (bpos a 3) w hl.1 ha (Nat.mod_lt _ (by decide)) (Nat.mod_lt _ (by decide)) (Nat.mod_lt _ (by decide)) (Nat.mod_lt _ (by decide)) hl.2 (Lib.hid fun wx => pos_any a wx ha hb)
theorem run_eqB (l m : List Nat) (w : World) (hl : IsB l) (hm : IsB m) : (binOp .eql 24 (.agg (uC l)) (.agg (uC m))).run Try.prog w = .ok (.bool (decide (l = m))) w := by
  have hsome : (Try.prog.info? 22).isSome = true := by kernel_rfl
  obtain ⟨inf, hi⟩ := Option.isSome_iff_exists.1 hsome
  exact run_eql_words w Try.underlying24 Try.underlying22 hi (by kernel_rfl) l m hl.1 hm.1
theorem run_guardB (x y : Operand) (l m : List Nat) (w : World) : (eqGuard .eql 24 x y (.agg (uC l)) (.agg (uC m))).run Try.prog w = .ok () w := by
  have h : Try.prog.eqGuardType Try.prog.depth 24 = false := by kernel_rfl
  simp [eqGuard, h, go_sem, Sem.run_bind, Result.andThen]
theorem wp_bs2 {o : Oper} {a : Act} {w : World} {K : Act → World → Prop} {Q : Exit → Act → World → Prop} (x y : Operand) (ho : o.op = .buildSlice 62 2 #[(0, x), (1, y)]) (l m : List Nat) (hx : a.eval x = .agg (uC l)) (hy : a.eval y = .agg (uC m)) (hl : IsB l) (hm : IsB m)
    (h : K (a.put o.dst (.slice (some ⟨w.heap.size, 0, none⟩) 2 2)) (w.alloc (.cells (uC (l ++ m)) 24))) : o.wp Try.prog a w K Q := by
  have hr := run_bs2 l m w hl hm
  unfold Oper.wp execOp
  simp only [ho, List.map_toArray, List.map_cons, List.map_nil, hx, hy, Sem.run_bind, hr, Sem.run_pure, Result.andThen_ok]
  exact h
theorem wp_bs3 {o : Oper} {a : Act} {w : World} {K : Act → World → Prop} {Q : Exit → Act → World → Prop} (x y z : Operand) (ho : o.op = .buildSlice 62 3 #[(0, x), (1, y), (2, z)]) (l m k : List Nat) (hx : a.eval x = .agg (uC l)) (hy : a.eval y = .agg (uC m)) (hz : a.eval z = .agg (uC k)) (hl : IsB l) (hm : IsB m) (hk : IsB k)
    (h : K (a.put o.dst (.slice (some ⟨w.heap.size, 0, none⟩) 3 3)) (w.alloc (.cells (uC (l ++ (m ++ k))) 24))) : o.wp Try.prog a w K Q := by
  have hr := run_bs3 l m k w hl hm hk
  unfold Oper.wp execOp
  simp only [ho, List.map_toArray, List.map_cons, List.map_nil, hx, hy, hz, Sem.run_bind, hr, Sem.run_pure, Result.andThen_ok]
  exact h
theorem wpList_bs2 {ops : Array Oper} {rest : List Oper} {o : Oper} {a : Act} {w : World} {Q : Exit → Act → World → Prop} (hgd : o.guard = none) (x y : Operand) (ho : o.op = .buildSlice 62 2 #[(0, x), (1, y)]) (l m : List Nat) (hx : a.eval x = .agg (uC l)) (hy : a.eval y = .agg (uC m)) (hl : IsB l) (hm : IsB m)
    (h : wpList Try.prog ops Q rest (a.put o.dst (.slice (some ⟨w.heap.size, 0, none⟩) 2 2)) (w.alloc (.cells (uC (l ++ m)) 24))) : wpList Try.prog ops Q (o :: rest) a w :=
  wpList_plain hgd fun _ hK => wp_bs2 x y ho l m hx hy hl hm (hK _ _ h)
theorem wp_eqB {o : Oper} {a : Act} {w : World} {K : Act → World → Prop} {Q : Exit → Act → World → Prop} (x y : Operand) (t : TypeId) (ho : o.op = .binOp .eql 24 x y t) (l m : List Nat) (hx : a.eval x = .agg (uC l)) (hy : a.eval y = .agg (uC m)) (hl : IsB l) (hm : IsB m)
    (h : K (a.put o.dst (.bool (decide (l = m)))) w) : o.wp Try.prog a w K Q := by
  have hr := run_eqB l m w hl hm
  have hg := run_guardB x y l m w
  unfold Oper.wp execOp
  simp only [ho, hx, hy, Sem.run_bind, hr, hg, Sem.run_pure, Result.andThen_ok]
  exact h
theorem val_eqB {o : Oper} {a : Act} (x y : Operand) (t : TypeId) (ho : o.op = .binOp .eql 24 x y t) (l m : List Nat) (hx : a.eval x = .agg (uC l)) (hy : a.eval y = .agg (uC m)) (hl : IsB l) (hm : IsB m) (he : l = m) (w : World) :
    (execOp a.eval o).run Try.prog w = .ok (.value (.bool true)) w := by
  have hr := run_eqB l m w hl hm
  have hg := run_guardB x y l m w
  unfold execOp
  simp only [ho, hx, hy, Sem.run_bind, hr, hg, Sem.run_pure, Result.andThen_ok, decide_eq_true he]
end Go.Proofs.Ythfjonicolhjnaa
