/- Joined: MixIdW, Arrays, EqBytes, SortRow, OwnSet. -/
import Derived.Test.YtpfmfigommmjiaaDoorToAI
import Derived.WalkKit
import Derived.WalkSpells
import Derived.WalkLawsBesides
import Derived.ChangeKeysEq
import Derived.Test.YtpfmfigommmjiaaDoorToAA
import Derived.Lib.OwnBridge
import Derived.Shelf.GgSortFunc.InsertionK
import Derived.Shelf.SlSortFuncK.RowK2
import Derived.Test.YtpfmfigommmjiaaDoorToAB
namespace Go.Proofs.YtpfmfigommmjiaaDoor
open Go.RowKit Plain
set_option maxRecDepth 100000 in
set_option maxHeartbeats 1000000 in
theorem id_any (s : ByteArray) (w : World) (hs : s.size ≤ 9223372036854775807) : Calls Tryd.prog 34 #[.string s] w fun e w' => e = .returned (.agg ((be8 (hsum (strN s))).map bV).toArray) ∧ Below w.heap.size w w' := by
  have i51' : (Tryd.prog.info? 43).map (·.size) = some 8 := by kernel_rfl
  have HC := Lib.hid fun wx => hsum_any s wx hs
  have r1' : ((w.alloc (.cells #[Value.int IntKind.u8 0, Value.int IntKind.u8 0, Value.int IntKind.u8 0, Value.int IntKind.u8 0, Value.int IntKind.u8 0, Value.int IntKind.u8 0, Value.int IntKind.u8 0, Value.int IntKind.u8 0] 43)).alloc (.cells #[Value.int IntKind.u8 0, Value.int IntKind.u8 0, Value.int IntKind.u8 0, Value.int IntKind.u8 0, Value.int IntKind.u8 0, Value.int IntKind.u8 0, Value.int IntKind.u8 0, Value.int IntKind.u8 0] 43)).heap[w.heap.size + 1]? = some (.cells #[Value.int IntKind.u8 0, Value.int IntKind.u8 0, Value.int IntKind.u8 0, Value.int IntKind.u8 0, Value.int IntKind.u8 0, Value.int IntKind.u8 0, Value.int IntKind.u8 0, Value.int IntKind.u8 0] 43 (0, 0)) := by
    have := heap_alloc_new (w.alloc (.cells #[Value.int IntKind.u8 0, Value.int IntKind.u8 0, Value.int IntKind.u8 0, Value.int IntKind.u8 0, Value.int IntKind.u8 0, Value.int IntKind.u8 0, Value.int IntKind.u8 0, Value.int IntKind.u8 0] 43)) (.cells #[Value.int IntKind.u8 0, Value.int IntKind.u8 0, Value.int IntKind.u8 0, Value.int IntKind.u8 0, Value.int IntKind.u8 0, Value.int IntKind.u8 0, Value.int IntKind.u8 0, Value.int IntKind.u8 0] 43)
    rw [World.size_alloc] at this
    exact this
  have r0' : ((w.alloc (.cells #[Value.int IntKind.u8 0, Value.int IntKind.u8 0, Value.int IntKind.u8 0, Value.int IntKind.u8 0, Value.int IntKind.u8 0, Value.int IntKind.u8 0, Value.int IntKind.u8 0, Value.int IntKind.u8 0] 43)).alloc (.cells #[Value.int IntKind.u8 0, Value.int IntKind.u8 0, Value.int IntKind.u8 0, Value.int IntKind.u8 0, Value.int IntKind.u8 0, Value.int IntKind.u8 0, Value.int IntKind.u8 0, Value.int IntKind.u8 0] 43)).heap[w.heap.size]? = some (.cells #[Value.int IntKind.u8 0, Value.int IntKind.u8 0, Value.int IntKind.u8 0, Value.int IntKind.u8 0, Value.int IntKind.u8 0, Value.int IntKind.u8 0, Value.int IntKind.u8 0, Value.int IntKind.u8 0] 43 (0, 0)) := (Below.heap_alloc _ _ _ (by simp)).trans (heap_alloc_new w _)
  have b0' : Below w.heap.size w ((w.alloc (.cells #[Value.int IntKind.u8 0, Value.int IntKind.u8 0, Value.int IntKind.u8 0, Value.int IntKind.u8 0, Value.int IntKind.u8 0, Value.int IntKind.u8 0, Value.int IntKind.u8 0, Value.int IntKind.u8 0] 43)).alloc (.cells #[Value.int IntKind.u8 0, Value.int IntKind.u8 0, Value.int IntKind.u8 0, Value.int IntKind.u8 0, Value.int IntKind.u8 0, Value.int IntKind.u8 0, Value.int IntKind.u8 0, Value.int IntKind.u8 0] 43)) := ((Below.refl _ _).alloc (Nat.le_refl _) _).alloc (by simp) _
  have R1 := Lib.hid r1'
  have R0 := Lib.hid r0'
  have B0 := Lib.hid b0'
  clear r1' r0' b0' hs
  have hlen : Hid (((be8 (hsum (strN s))).map bV).toArray.size = 8) := by simp [be8, Hid]
  have hone : Hid ((((be8 (hsum (strN s))).map bV).toArray).all (·.oneCell') = true) := bC_one _
  have HP : Hid (∀ (B : Nat) (wx : World), wx.heap[B]? = some (.cells #[Value.int IntKind.u8 0, Value.int IntKind.u8 0, Value.int IntKind.u8 0, Value.int IntKind.u8 0, Value.int IntKind.u8 0, Value.int IntKind.u8 0, Value.int IntKind.u8 0, Value.int IntKind.u8 0] 43 (0, 0)) → Calls Tryd.prog 50 #[.agg #[], .slice (some ⟨B, 0, none⟩) 8 8, .int .u64 (hsum (strN s) : Int)] wx fun e w' => (∃ v, e = .returned v) ∧ w'.heap[B]? = some (.cells ((be8 (hsum (strN s))).map bV).toArray 43 (0, 0)) ∧ Below B wx w') := fun B wx h => put64 B 43 _ wx h
  have i51 := Lib.hid i51'
  clear i51'
  generalize ((be8 (hsum (strN s))).map bV).toArray = C at *
  generalize hsum (strN s) = h at *
  go_enter Tryd.func34, Tryd.ntmps34
  go_wp2_with fail
  generalize (w.alloc (.cells #[Value.int IntKind.u8 0, Value.int IntKind.u8 0, Value.int IntKind.u8 0, Value.int IntKind.u8 0, Value.int IntKind.u8 0, Value.int IntKind.u8 0, Value.int IntKind.u8 0, Value.int IntKind.u8 0] 43)).alloc (.cells #[Value.int IntKind.u8 0, Value.int IntKind.u8 0, Value.int IntKind.u8 0, Value.int IntKind.u8 0, Value.int IntKind.u8 0, Value.int IntKind.u8 0, Value.int IntKind.u8 0, Value.int IntKind.u8 0] 43) = w1 at *
  refine wp_region_noPanic ?_
  refine wp_region_held_drew (S := fun _ => True) (by kernel_rfl) trivial (fun _ => ?_)
  have R1v : Hid (w1.drew.heap[w.heap.size + 1]? = some (.cells #[Value.int IntKind.u8 0, Value.int IntKind.u8 0, Value.int IntKind.u8 0, Value.int IntKind.u8 0, Value.int IntKind.u8 0, Value.int IntKind.u8 0, Value.int IntKind.u8 0, Value.int IntKind.u8 0] 43 (0, 0))) := R1.out
  have R0v : Hid (w1.drew.heap[w.heap.size]? = some (.cells #[Value.int IntKind.u8 0, Value.int IntKind.u8 0, Value.int IntKind.u8 0, Value.int IntKind.u8 0, Value.int IntKind.u8 0, Value.int IntKind.u8 0, Value.int IntKind.u8 0, Value.int IntKind.u8 0] 43 (0, 0))) := R0.out
  have Bv : Hid (Below w.heap.size w w1.drew) := B0.out.drew
  clear R1 R0 B0
  generalize w1.drew = v0 at *
  refine take_val 0 (.agg #[]) rfl (by kernel_rfl) (by kernel_rfl) (by kernel_rfl) (fun _ _ _ _ h => h) (by rfl) rfl (fun w _ => by go_simp) trivial ?_
  try simp only [List.set_cons_zero, List.set_cons_succ]
  refine take_val 1 (.slice (some ⟨w.heap.size + 1, 0, none⟩) 8 8) rfl (by kernel_rfl) (by kernel_rfl) (by kernel_rfl) (fun _ _ _ _ h => h) (by rfl) rfl (fun w _ => by go_simp) trivial ?_
  try simp only [List.set_cons_zero, List.set_cons_succ]
  refine take_val 2 (.string s) rfl (by kernel_rfl) (by kernel_rfl) (by kernel_rfl) (fun _ _ _ _ h => h) (by rfl) rfl (fun w _ => by go_simp) trivial ?_
  try simp only [List.set_cons_zero, List.set_cons_succ]
  refine one_ready 3 (by kernel_rfl) rfl (by rfl) (fun K hK => ?_)
  go_simp
  refine (HC.out _).mono ?_
  rintro e v1 ⟨rfl, hb1⟩
  go_wp2_with fail
  refine hK.out _ _ trivial ?_
  clear hK K
  try simp only [Act.put, List.setIfInBounds_toArray, List.set_cons_zero, List.set_cons_succ]
  have R1w := Lib.hid ((hb1.block _ (lt_of_block R1v.out)).trans R1v.out)
  have R0w := Lib.hid ((hb1.block _ (lt_of_block R0v.out)).trans R0v.out)
  have Bw := Lib.hid (Below.step Bv.out hb1)
  clear R1v R0v Bv hb1
  refine one_ready 4 (by kernel_rfl) rfl (by rfl) (fun K hK => ?_)
  go_simp
  refine (HP.out _ _ R1w.out).mono ?_
  rintro e v2 ⟨⟨vv, rfl⟩, hr2, hb2⟩
  go_wp2_with fail
  refine hK.out _ _ trivial ?_
  clear hK K
  try simp only [Act.put, List.setIfInBounds_toArray, List.set_cons_zero, List.set_cons_succ]
  have R1x := Lib.hid hr2
  have R0x := Lib.hid ((hb2.block w.heap.size (Nat.lt_succ_self _)).trans R0w.out)
  have Bx : Hid (Below w.heap.size w v2) := Below.trans Bw.out (hb2.mono (Nat.le_succ _))
  clear R1w R0w Bw hr2 hb2
  refine wpAnyH_done (by kernel_rfl) ?_ _
  refine NoPanic.normal ?_
  have hth : Hid (v2.there w.heap.size 0 C.size) := by
    rw [hlen.out]
    intro j hj
    rw [Nat.zero_add, cell_of_row _ _ _ _ _ _ R0x.out, Array.getElem?_eq_getElem hj]
    exact ⟨rfl, frozen_of_row _ _ _ _ _ R0x.out⟩
  have ic : Hid ((Tryd.prog.info? 43).map (·.size) = some C.size) := by rw [hlen.out]; exact i51.out
  go_wp2_with (first
    | (with_reducible refine wpList_load_row rfl 43 (.tmp 3) rfl (w.heap.size + 1) rfl 43 C (0, 0) _ R1x.out Tryd.underlying43 rfl ?_ ?_; exact ic.out)
    | (with_reducible refine wpList_store_mid rfl 43 (.tmp 2) (.tmp 9) rfl w.heap.size 0 C rfl rfl hth.out ic.out hone.out ?_))
  exact bodyPost_ret (v := .agg C) (results_cell_row (p := 2) (ty := 43) rfl _ _ w.heap.size 43 C (0, 0) _ rfl (setCells_full R0x.out _ (by rw [hlen.out]; rfl)) Tryd.underlying43 rfl ic.out) rfl ⟨rfl, below_setCells (Nat.le_refl _) _ _ Bx.out⟩
end Go.Proofs.YtpfmfigommmjiaaDoor
namespace Go.Proofs.YtpfmfigommmjiaaDoor
theorem run_isAgg_int {P : Program} (w : World) {e : TypeId} {k : IntKind} (he : P.underlying e = some (.int k)) : (isAgg e).run P w = .ok false w := by
  unfold isAgg
  rw [Sem.run_bind, run_underlying he w]
  rfl
theorem run_sizeOf_of {P : Program} (w : World) {e : TypeId} {n : Nat} (hi : (P.info? e).map (·.size) = some n) : (Go.sizeOf e).run P w = .ok n w := by
  cases hq : P.info? e with
  | none => simp [hq] at hi
  | some i =>
    have hs : i.size = n := by simpa [hq] using hi
    simp [Go.sizeOf, typeInfo, hq, hs]
/-- 'a[i]' of an array of integers by value -/
theorem run_index_ints {P : Program} (w : World) (t e : TypeId) (n : Nat) (k kk : IntKind) (cs : Array Value) (i : Int) (ht : P.underlying t = some (.array n e)) (he : P.underlying e = some (.int kk)) (hi : (P.info? e).map (·.size) = some 1)
    (h0 : 0 ≤ i) (h1 : i < (n : Int)) (hc : cs.size = n) : (Instr.index t (.agg cs) (.int k i)).run P w = .ok (cs[i.toNat]'(by omega)) w := by
  have hin : 0 ≤ i ∧ i < (n : Int) := ⟨h0, h1⟩
  have hget : cs[i.toNat]? = some (cs[i.toNat]'(by omega)) := Array.getElem?_eq_getElem (by omega)
  simp [Instr.index, run_underlying ht, asIntOf, hin, go_sem, Sem.run_bind, run_sizeOf_of w hi, run_isAgg_int w he, hget]
end Go.Proofs.YtpfmfigommmjiaaDoor
namespace Go.Proofs.YtpfmfigommmjiaaDoor
open Plain
/-- an array of bytes -/
def bC (l : List Nat) : Array Value := (l.map bV).toArray
theorem bC_size (l : List Nat) : (bC l).size = l.length := by simp [bC]
theorem ext_getD {a b : List Nat} (h : a.length = b.length) (h2 : ∀ i, i < a.length → a.getD i 0 = b.getD i 0) : a = b := by
  apply List.ext_getElem h
  intro i h1 h3
  have := h2 i h1
  simpa [List.getD_eq_getElem?_getD, List.getElem?_eq_getElem h1, List.getElem?_eq_getElem h3] using this
theorem bC_get (l : List Nat) (i : Nat) (h : i < l.length) : (bC l)[i]? = some (.int .u8 ((l.getD i 0 : Nat) : Int)) := by
  simp [bC, List.getElem?_map, List.getD_eq_getElem?_getD, List.getElem?_eq_getElem h, bV]
theorem run_part_byte {P : Program} (w : World) {e : TypeId} {k : IntKind} (he : P.underlying e = some (.int k)) (l : List Nat) (i : Nat) (h : i < l.length) : (part e (bC l) i).run P w = .ok (.int .u8 ((l.getD i 0 : Nat) : Int)) w := by
  unfold part
  rw [Sem.run_bind, run_isAgg_int w he]
  simp [Result.andThen, bC_get l i h]
theorem run_eqItems_bytes {P : Program} (d : Nat) {e : TypeId} {k : IntKind} (he : P.underlying e = some (.int k)) (l m : List Nat) (w : World) : ∀ (is : List Nat), (∀ i ∈ is, i < l.length ∧ i < m.length) →
    (Op.eqItems (d + 1) e 1 (bC l) (bC m) is).run P w = .ok (is.all fun i => l.getD i 0 == m.getD i 0) w
  | [], _ => by simp [Op.eqItems]
  | i :: is, h => by
    have hi := h i (by simp)
    have ih := run_eqItems_bytes d he l m w is (fun j hj => h j (by simp [hj]))
    simp only [Op.eqItems, Sem.run_bind, Nat.mul_one, List.all_cons, run_part_byte w he l i hi.1, run_part_byte w he m i hi.2, Result.andThen_ok, Op.equalIn, run_underlying he, if_true, Sem.run_pure]
    generalize l.getD i 0 = x at *
    generalize m.getD i 0 = y at *
    have hb : (((x : Nat) : Int) == ((y : Nat) : Int)) = (x == y) := by
      rw [Bool.eq_iff_iff, beq_iff_eq, beq_iff_eq]; omega
    rw [hb]
    cases c : (x == y)
    · rfl
    · simp only [Bool.not_true, Bool.false_eq_true, if_false, Bool.true_and]
      exact ih
theorem all_range_eq (l m : List Nat) (n : Nat) (hl : l.length = n) (hm : m.length = n) : ((List.range n).all fun i => l.getD i 0 == m.getD i 0) = decide (l = m) := by
  rw [Bool.eq_iff_iff]
  simp only [List.all_eq_true, List.mem_range, beq_iff_eq, decide_eq_true_eq]
  constructor
  · intro h
    exact ext_getD (by rw [hl, hm]) (fun i hi => h i (by omega))
  · rintro rfl i _; rfl
theorem run_equal_bytes {P : Program} (w : World) {t e : TypeId} {n : Nat} {k : IntKind} {inf : TypeInfo} (ht : P.underlying t = some (.array n e)) (he : P.underlying e = some (.int k)) (hi : P.info? e = some inf) (hc : P.cellsOf e = 1)
    (l m : List Nat) (hl : l.length = n) (hm : m.length = n) : (Op.equal t (.agg (bC l)) (.agg (bC m))).run P w = .ok (decide (l = m)) w := by
  unfold Op.equal Op.maxDepth
  rw [run_equalIn_array w 9999 (bC l) (bC m) ht hi, hc, run_eqItems_bytes 9998 he l m w _ (fun i h => by rw [List.mem_range] at h; omega), all_range_eq l m n hl hm]
theorem run_eql_bytes {P : Program} (w : World) {t e : TypeId} {n : Nat} {k : IntKind} {inf : TypeInfo} (ht : P.underlying t = some (.array n e)) (he : P.underlying e = some (.int k)) (hi : P.info? e = some inf) (hc : P.cellsOf e = 1)
    (l m : List Nat) (hl : l.length = n) (hm : m.length = n) : (binOp .eql t (.agg (bC l)) (.agg (bC m))).run P w = .ok (.bool (decide (l = m))) w := by
  unfold binOp
  simp only [Sem.run_bind, run_equal_bytes w ht he hi hc l m hl hm, Result.andThen_ok, Sem.run_pure]
end Go.Proofs.YtpfmfigommmjiaaDoor
namespace Go.Proofs.YtpfmfigommmjiaaDoor
open Go.RowKit Go.Sort
variable {α : Type} [Inhabited α] {k : Nat} {c : α → List Value} {w w0 : World} {base g cap : Nat} {T : TypeId} {l : List α}
theorem flatK_flat (hc : ∀ y, (c y).length = k) (d : Array α) : (flatK c k d).toList = d.toList.flatMap c := by
  apply List.ext_getElem?
  intro t
  rcases Nat.lt_or_ge t (d.size * k) with h | h
  · have k0 : 0 < k := by
      rcases Nat.eq_zero_or_pos k with e | e
      · subst e; simp at h
      · exact e
    have hi : t / k < d.toList.length := by
      rw [Array.length_toList]
      exact Nat.div_lt_of_lt_mul (by rw [Nat.mul_comm]; exact h)
    have hj : t % k < k := Nat.mod_lt _ k0
    have e1 := flat_get hc d.toList (t / k) (t % k) hi hj
    have e2 : t / k * k + t % k = t := by rw [Nat.mul_comm]; exact Nat.div_add_mod t k
    rw [e2] at e1
    have e3 := get_flatK c k d t h
    have hs : t < (flatK c k d).size := by rw [size_flatK]; exact h
    rw [e1, Array.getElem?_toList, Array.getElem?_eq_getElem hs]
    rw [getElem!_pos _ t hs] at e3
    have hi' : t / k < d.size := by simpa using hi
    rw [e3, getElem!_pos d (t / k) hi', Array.getElem_toList]
    have hj' : t % k < (c d[t / k]).length := by rw [hc]; exact hj
    rw [getElem!_pos (c d[t / k]) (t % k) hj', List.getElem?_eq_getElem hj']
  · rw [List.getElem?_eq_none (by rw [Array.length_toList, size_flatK]; exact h), List.getElem?_eq_none (by rw [flat_length hc, Array.length_toList]; exact h)]
omit [Inhabited α] in
theorem own_block (h : w.ownsRow base T k (.slice (some ⟨g, 0, none⟩) l.length cap) l.length (l.flatMap c)) : base ≤ g ∧ g < w.heap.size ∧ l.length ≤ cap ∧ cap ≤ 9223372036854775807 ∧ ∃ cur, w.heap[g]? = some (.cells cur T (0, 0)) ∧ cur.size = cap * k ∧ cur.toList.take (l.length * k) = l.flatMap c := by
  rcases h.2 with ⟨e0, _⟩ | ⟨g', cap', cur, e0, hb, hg, hn, hm, hs, ht⟩
  · cases e0
  · injection e0 with e1 _ e3
    injection e1 with e1
    injection e1 with e1
    subst e1
    subst e3
    exact ⟨hb, lt_of_block hg, hn, by unfold maxLen at hm; exact hm, cur, hg, hs, ht⟩
theorem holdsK_own (hc : ∀ y, (c y).length = k) (h : w.ownsRow base T k (.slice (some ⟨g, 0, none⟩) l.length cap) l.length (l.flatMap c)) : HoldsK c k w g 0 l.toArray := by
  obtain ⟨_, hlt, hn, _, cur, hg, hs, ht⟩ := own_block h
  intro j hj
  have hj' : j < l.length * k := by simpa using hj
  refine ⟨?_, frozen_of_row _ _ _ _ _ hg⟩
  have e := flatK_flat hc l.toArray
  have e2 : (flatK c k l.toArray).toList[j]? = cur.toList[j]? := by
    rw [e, ← ht, List.getElem?_take, if_pos hj']
  rw [Nat.zero_add, cell_of_row _ _ _ _ _ _ hg, ← Array.getElem?_toList, ← e2, Array.getElem?_toList, Array.getElem?_eq_getElem (by rw [size_flatK]; simpa using hj')]
  rw [getElem!_pos (flatK c k l.toArray) j (by rw [size_flatK]; simpa using hj')]
  rfl
theorem own_sortK (hc : ∀ y, (c y).length = k) (h : w.ownsRow base T k (.slice (some ⟨g, 0, none⟩) l.length cap) l.length (l.flatMap c)) (m : Nat) (l' : List α) (hl : l'.length = l.length) (os : Array Obj) :
    (Proofs.sortWorldK c k w g 0 m l'.toArray os).ownsRow base T k (.slice (some ⟨g, 0, none⟩) l'.length cap) l'.length (l'.flatMap c) := by
  obtain ⟨hb, hlt, hn, hm, cur, hg, hs, ht⟩ := own_block h
  refine ⟨flat_length hc l', .inr ⟨g, cap, putCells id 0 (flatK c k l'.toArray) cur, rfl, hb, ?_, by omega, by unfold maxLen; exact hm, by simpa [putCells] using hs, ?_⟩⟩
  · unfold Proofs.sortWorldK
    have e : (putRowK c k (Sort.ahead w m) g 0 l'.toArray).heap[g]? = some (.cells (putCells id 0 (flatK c k l'.toArray) cur) T (0, 0)) := by
      simp [putRowK, putRow, mapBlock, Sort.ahead, Array.getElem?_modify, hg, onCells]
    show ((putRowK c k (Sort.ahead w m) g 0 l'.toArray).heap ++ os)[g]? = _
    rw [Array.getElem?_append_left (lt_of_block e), e]
  · have e := flatK_flat hc l'.toArray
    have hcap : l'.length * k ≤ cap * k := Nat.mul_le_mul_right _ (by omega)
    apply List.ext_getElem?
    intro j
    rw [List.getElem?_take, Array.getElem?_toList]
    by_cases hj : j < l'.length * k
    · rw [if_pos hj]
      simp only [putCells, Array.getElem?_mapIdx, Array.getElem?_eq_getElem (show j < cur.size by omega), Option.map_some]
      have hj2 : j < (flatK c k l'.toArray).size := by rw [size_flatK]; simpa using hj
      rw [if_pos (by omega), Nat.sub_zero, getElem!_pos (flatK c k l'.toArray) j hj2]
      have e' : l'.flatMap c = (flatK c k l'.toArray).toList := by rw [e]
      rw [e', Array.getElem?_toList, Array.getElem?_eq_getElem hj2]
      rfl
    · rw [if_neg hj, List.getElem?_eq_none (by rw [flat_length hc]; omega)]
theorem below_sortK {B : Nat} (h : Below B w0 w) (hg : B ≤ g) (hgw : g < w.heap.size) (m : Nat) (d : Array α) (os : Array Obj) : Below B w0 (Proofs.sortWorldK c k w g 0 m d os) := by
  have h1 : Below B w0 (putRowK c k (Sort.ahead w m) g 0 d) := Lib.below_putRow h hg
  refine ⟨h1.os, h1.tape, h1.output, Nat.le_trans h1.size (by show _ ≤ ((putRowK c k (Sort.ahead w m) g 0 d).heap ++ os).size; simp), fun j hj => ?_⟩
  rw [← h1.block j hj]
  show ((putRowK c k (Sort.ahead w m) g 0 d).heap ++ os)[j]? = _
  have hs : (putRowK c k (Sort.ahead w m) g 0 d).heap.size = w.heap.size := by simp [putRowK, putRow, mapBlock, Sort.ahead]
  rw [Array.getElem?_append_left (by omega)]
end Go.Proofs.YtpfmfigommmjiaaDoor
namespace Go.Proofs.YtpfmfigommmjiaaDoor
open Go.RowKit
set_option linter.unusedVariables false
set_option linter.unusedSimpArgs false
section
variable {α : Type} {k : Nat} {c : α → List Value} {w w0 : World} {base g cap n : Nat} {T : TypeId} {l : List α}
theorem own_setCells {xs : List Value} (h : w.ownsRow base T k (.slice (some ⟨g, 0, none⟩) n cap) n xs) (o : Nat) (vs : List Value) (ho : o + vs.length ≤ xs.length) :
    (w.setCells g o vs).ownsRow base T k (.slice (some ⟨g, 0, none⟩) n cap) n (xs.take o ++ (vs ++ xs.drop (o + vs.length))) := by
  obtain ⟨hl, h2⟩ := h
  rcases h2 with ⟨e0, _⟩ | ⟨g', cap', cur, e0, hb, hg, hn, hm, hs, ht⟩
  · cases e0
  · injection e0 with e1 _ e3
    injection e1 with e1
    injection e1 with e1
    subst e1
    subst e3
    obtain ⟨cs', h1, h2, h3⟩ := heap_setCells g T vs o w cur hg
    refine ⟨?_, .inr ⟨g, cap, cs', rfl, hb, h1, hn, hm, by rw [h2, hs], ?_⟩⟩
    · simp only [List.length_append, List.length_take, List.length_drop]
      omega
    · have hcap : n * k ≤ cap * k := Nat.mul_le_mul_right _ hn
      apply List.ext_getElem?
      intro j
      rw [List.getElem?_take, Array.getElem?_toList, h3]
      have hx : j < n * k → cur[j]? = xs[j]? := fun hj => by
        rw [← ht, List.getElem?_take, if_pos hj, Array.getElem?_toList]
      by_cases hj : j < n * k
      · rw [if_pos hj]
        by_cases h4 : o ≤ j ∧ j < o + vs.length ∧ j < cur.size
        · rw [if_pos h4, List.getElem?_append_right (by rw [List.length_take]; omega), List.length_take, List.getElem?_append_left (by omega)]
          congr 1
          omega
        · rw [if_neg h4, hx hj]
          by_cases h5 : j < o
          · rw [List.getElem?_append_left (by rw [List.length_take]; omega), List.getElem?_take, if_pos h5]
          · have h6 : o + vs.length ≤ j := by
              rcases Nat.lt_or_ge j (o + vs.length) with h7 | h7
              · exact absurd ⟨by omega, h7, by omega⟩ h4
              · exact h7
            rw [List.getElem?_append_right (by rw [List.length_take]; omega), List.length_take, List.getElem?_append_right (by omega), List.getElem?_drop]
            congr 1
            omega
      · rw [if_neg hj, List.getElem?_eq_none]
        simp only [List.length_append, List.length_take, List.length_drop]
        omega
theorem flat_put (hc : ∀ y, (c y).length = k) : ∀ (l : List α) (i : Nat) (x : α) (h : i < l.length), (l.flatMap c).take (i * k) ++ (c x ++ (l.flatMap c).drop (i * k + k)) = (l.set i x).flatMap c
  | [], i, x, h => by cases h
  | p :: l, 0, x, h => by
    rw [List.flatMap_cons, List.set_cons_zero, List.flatMap_cons, Nat.zero_mul, List.take_zero, List.nil_append, Nat.zero_add, List.drop_append_of_le_length (by rw [hc]; exact Nat.le_refl _), List.drop_of_length_le (by rw [hc]; exact Nat.le_refl _), List.nil_append]
  | p :: l, i + 1, x, h => by
    rw [List.flatMap_cons, List.set_cons_succ, List.flatMap_cons, ← flat_put hc l i x (by simpa using h), List.take_append, List.drop_append, hc, List.take_of_length_le (by rw [hc, Nat.succ_mul]; omega), List.drop_of_length_le (by rw [hc, Nat.succ_mul]; omega)]
    rw [show (i + 1) * k - k = i * k by rw [Nat.succ_mul]; omega, show (i + 1) * k + k - k = i * k + k by rw [Nat.succ_mul]; omega, List.append_assoc, List.nil_append]
theorem flat_take (hc : ∀ y, (c y).length = k) : ∀ (l : List α) (i : Nat), i ≤ l.length → (l.flatMap c).take (i * k) = (l.take i).flatMap c
  | l, 0, _ => by simp
  | [], i + 1, h => by simp at h
  | p :: l, i + 1, h => by
    rw [List.flatMap_cons, List.take_succ_cons, List.flatMap_cons, ← flat_take hc l i (by simpa using h), List.take_append, hc, List.take_of_length_le (by rw [hc, Nat.succ_mul]; omega)]
    rw [show (i + 1) * k - k = i * k by rw [Nat.succ_mul]; omega]
/-- one element stored -/
theorem own_put (hc : ∀ y, (c y).length = k) (h : w.ownsRow base T k (.slice (some ⟨g, 0, none⟩) l.length cap) l.length (l.flatMap c)) (i : Nat) (hi : i < l.length) (x : α) :
    (w.setCells g (i * k) (c x)).ownsRow base T k (.slice (some ⟨g, 0, none⟩) (l.set i x).length cap) (l.set i x).length ((l.set i x).flatMap c) := by
  have hle : (i + 1) * k ≤ l.length * k := Nat.mul_le_mul_right _ hi
  rw [Nat.succ_mul] at hle
  have := own_setCells h (i * k) (c x) (by rw [hc, flat_length hc]; omega)
  rw [hc, flat_put hc l i x hi] at this
  rw [List.length_set]
  exact this
/-- the elements behind the first i overwritten by whatever -/
theorem own_clear (hc : ∀ y, (c y).length = k) (h : w.ownsRow base T k (.slice (some ⟨g, 0, none⟩) l.length cap) l.length (l.flatMap c)) (i : Nat) (hi : i ≤ l.length) (vs : List Value) (hv : i * k + vs.length = l.length * k) :
    (w.setCells g (i * k) vs).ownsRow base T k (.slice (some ⟨g, 0, none⟩) (l.take i).length cap) (l.take i).length ((l.take i).flatMap c) := by
  have h1 := own_setCells h (i * k) vs (by rw [flat_length hc]; omega)
  rw [List.drop_of_length_le (by rw [flat_length hc]; omega), List.append_nil, flat_take hc l i hi] at h1
  obtain ⟨_, h2⟩ := h1
  rcases h2 with ⟨e0, _⟩ | ⟨g', cap', cur, e0, hb, hg, hn, hm, hs, ht⟩
  · cases e0
  · injection e0 with e1 _ e3
    injection e1 with e1
    injection e1 with e1
    subst e1
    subst e3
    have hlt : (l.take i).length = i := by rw [List.length_take]; omega
    have hik : i * k ≤ l.length * k := Nat.mul_le_mul_right _ hi
    refine ⟨flat_length hc _, .inr ⟨g, cap, cur, rfl, hb, hg, by omega, hm, hs, ?_⟩⟩
    rw [hlt]
    have h3 : (cur.toList.take (l.length * k)).take (i * k) = cur.toList.take (i * k) := by rw [List.take_take, Nat.min_eq_left hik]
    rw [← h3, ht, List.take_append_of_le_length (by rw [flat_length hc, hlt]; exact Nat.le_refl _), List.take_of_length_le (by rw [flat_length hc, hlt]; exact Nat.le_refl _)]
end
/-- clear of a slice -/
theorem run_clear_any {P : Program} (w : World) (t e ty : TypeId) (z : Value) (ht : P.underlying t = some (.slice e)) (hv : (zeroValue e).run P w = .ok z w) (h1 : ∀ v ∈ z.cells.toList, v.oneCell' = true) (b o n c : Nat) (hn : 0 < n)
    (hc : ∀ j, j < n * z.cells.size → (w.cell? ⟨b, o + j, none⟩).isSome = true) (hf : ∀ j, j < n * z.cells.size → w.frozen? ⟨b, o + j, none⟩ = false) :
    (Builtin.clear_ #[t] ty #[.slice (some ⟨b, o, none⟩) n c]).run P w = .ok (.tuple #[]) (w.setCells b o (Builtin.zeroCells z.cells n).toList) ∧ (Builtin.zeroCells z.cells n).toList.length = n * z.cells.size := by
  have hl : (Builtin.zeroCells z.cells n).toList.length = n * z.cells.size := by simp [Builtin.zeroCells, Nat.mul_comm]
  refine ⟨?_, hl⟩
  have hst := run_storeCells_cells (P := P) b o (Builtin.zeroCells z.cells n).toList 0 w (by rw [hl]; simpa using hc) (by rw [hl]; simpa using hf) (by
    intro v hv'
    rw [Array.mem_toList_iff] at hv'
    unfold Builtin.zeroCells at hv'
    obtain ⟨j, hj, rfl⟩ := Array.mem_iff_getElem.1 hv'
    have hz : 0 < z.cells.size := by
      rcases Nat.eq_zero_or_pos z.cells.size with e | e
      · simp [e] at hj
      · exact e
    simp only [Array.getElem_map, Array.getElem_range]
    apply h1
    rw [Array.mem_toList_iff]
    have hm : j % z.cells.size < z.cells.size := Nat.mod_lt _ hz
    first
      | (rw [getElem!_pos z.cells _ hm]; exact Array.getElem_mem _)
      | (rw [Array.getD_eq_getD_getElem?, Array.getElem?_eq_getElem hm]; exact Array.getElem_mem _)
      | (simp [hm]))
  simp only [Nat.add_zero] at hst
  obtain ⟨m, rfl⟩ : ∃ m, n = m + 1 := ⟨n - 1, by omega⟩
  simp [Builtin.clear_, run_underlying ht, hv, hst]
end Go.Proofs.YtpfmfigommmjiaaDoor
