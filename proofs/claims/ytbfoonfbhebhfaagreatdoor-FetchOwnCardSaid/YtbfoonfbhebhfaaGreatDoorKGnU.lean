/- Joined: MixIdW, Arrays, EqBytes, OwnForm, SortRow, OwnSet, AppendNew, RowKit, AmpleBase, PressNum, PackId. -/
import Derived.Test.YtbfoonfbhebhfaaGreatDoorKGnJ
import Derived.WalkKit
import Derived.WalkSpells
import Derived.WalkLawsBesides
import Derived.ChangeKeysEq
import Derived.Test.YtbfoonfbhebhfaaGreatDoorKGnP
import Derived.Test.YtbfoonfbhebhfaaGreatDoorKGnB
import Derived.Lib.OwnBridge
import Derived.Shelf.GgSortFunc.InsertionK
import Derived.Shelf.SlSortFuncK.RowK2
import Derived.Test.YtbfoonfbhebhfaaGreatDoorKGnM
import Derived.Lib.JoinLaws
import Derived.Laws.MakeOwn
import Derived.Test.YtbfoonfbhebhfaaGreatDoorKGnK
import Derived.Test.YtbfoonfbhebhfaaGreatDoorKGnR
namespace Go.Proofs.YtbfoonfbhebhfaaGreatDoor
open Go.RowKit Plain
set_option maxRecDepth 100000 in
set_option maxHeartbeats 1000000 in
theorem id_any (s : ByteArray) (w : World) (hs : s.size ≤ 9223372036854775807) : Calls Tryz.prog 62 #[.string s] w fun e w' => e = .returned (.agg ((be8 (hsum (strN s))).map bV).toArray) ∧ Below w.heap.size w w' := by
 have i51' : (Tryz.prog.info? 30).map (·.size) = some 8 := by kernel_rfl
 have HC := Lib.hid fun wx => hsum_any s wx hs
 have r1' : ((w.alloc (.cells #[Value.int IntKind.u8 0, Value.int IntKind.u8 0, Value.int IntKind.u8 0, Value.int IntKind.u8 0, Value.int IntKind.u8 0, Value.int IntKind.u8 0, Value.int IntKind.u8 0, Value.int IntKind.u8 0] 30)).alloc (.cells #[Value.int IntKind.u8 0, Value.int IntKind.u8 0, Value.int IntKind.u8 0, Value.int IntKind.u8 0, Value.int IntKind.u8 0, Value.int IntKind.u8 0, Value.int IntKind.u8 0, Value.int IntKind.u8 0] 30)).heap[w.heap.size + 1]? = some (.cells #[Value.int IntKind.u8 0, Value.int IntKind.u8 0, Value.int IntKind.u8 0, Value.int IntKind.u8 0, Value.int IntKind.u8 0, Value.int IntKind.u8 0, Value.int IntKind.u8 0, Value.int IntKind.u8 0] 30 (0, 0)) := by
  have := heap_alloc_new (w.alloc (.cells #[Value.int IntKind.u8 0, Value.int IntKind.u8 0, Value.int IntKind.u8 0, Value.int IntKind.u8 0, Value.int IntKind.u8 0, Value.int IntKind.u8 0, Value.int IntKind.u8 0, Value.int IntKind.u8 0] 30)) (.cells #[Value.int IntKind.u8 0, Value.int IntKind.u8 0, Value.int IntKind.u8 0, Value.int IntKind.u8 0, Value.int IntKind.u8 0, Value.int IntKind.u8 0, Value.int IntKind.u8 0, Value.int IntKind.u8 0] 30)
  rw [World.size_alloc] at this
  exact this
 have r0' : ((w.alloc (.cells #[Value.int IntKind.u8 0, Value.int IntKind.u8 0, Value.int IntKind.u8 0, Value.int IntKind.u8 0, Value.int IntKind.u8 0, Value.int IntKind.u8 0, Value.int IntKind.u8 0, Value.int IntKind.u8 0] 30)).alloc (.cells #[Value.int IntKind.u8 0, Value.int IntKind.u8 0, Value.int IntKind.u8 0, Value.int IntKind.u8 0, Value.int IntKind.u8 0, Value.int IntKind.u8 0, Value.int IntKind.u8 0, Value.int IntKind.u8 0] 30)).heap[w.heap.size]? = some (.cells #[Value.int IntKind.u8 0, Value.int IntKind.u8 0, Value.int IntKind.u8 0, Value.int IntKind.u8 0, Value.int IntKind.u8 0, Value.int IntKind.u8 0, Value.int IntKind.u8 0, Value.int IntKind.u8 0] 30 (0, 0)) := (Below.heap_alloc _ _ _ (by simp)).trans (heap_alloc_new w _)
 have b0' : Below w.heap.size w ((w.alloc (.cells #[Value.int IntKind.u8 0, Value.int IntKind.u8 0, Value.int IntKind.u8 0, Value.int IntKind.u8 0, Value.int IntKind.u8 0, Value.int IntKind.u8 0, Value.int IntKind.u8 0, Value.int IntKind.u8 0] 30)).alloc (.cells #[Value.int IntKind.u8 0, Value.int IntKind.u8 0, Value.int IntKind.u8 0, Value.int IntKind.u8 0, Value.int IntKind.u8 0, Value.int IntKind.u8 0, Value.int IntKind.u8 0, Value.int IntKind.u8 0] 30)) := ((Below.refl _ _).alloc (Nat.le_refl _) _).alloc (by simp) _
 have R1 := Lib.hid r1'
 have R0 := Lib.hid r0'
 have B0 := Lib.hid b0'
 clear r1' r0' b0' hs
 have hlen : Hid (((be8 (hsum (strN s))).map bV).toArray.size = 8) := by simp [be8, Hid]
 have hone : Hid ((((be8 (hsum (strN s))).map bV).toArray).all (·.oneCell') = true) := bC_one _
 have HP : Hid (∀ (B : Nat) (wx : World), wx.heap[B]? = some (.cells #[Value.int IntKind.u8 0, Value.int IntKind.u8 0, Value.int IntKind.u8 0, Value.int IntKind.u8 0, Value.int IntKind.u8 0, Value.int IntKind.u8 0, Value.int IntKind.u8 0, Value.int IntKind.u8 0] 30 (0, 0)) → Calls Tryz.prog 94 #[.agg #[], .slice (some ⟨B, 0, none⟩) 8 8, .int .u64 (hsum (strN s) : Int)] wx fun e w' => (∃ v, e = .returned v) ∧ w'.heap[B]? = some (.cells ((be8 (hsum (strN s))).map bV).toArray 30 (0, 0)) ∧ Below B wx w') := fun B wx h => put64 B 30 _ wx h
 have i51 := Lib.hid i51'
 clear i51'
 generalize ((be8 (hsum (strN s))).map bV).toArray = C at *
 generalize hsum (strN s) = h at *
 go_enter Tryz.func62, Tryz.ntmps62
 go_wp2_with fail
 generalize (w.alloc (.cells #[Value.int IntKind.u8 0, Value.int IntKind.u8 0, Value.int IntKind.u8 0, Value.int IntKind.u8 0, Value.int IntKind.u8 0, Value.int IntKind.u8 0, Value.int IntKind.u8 0, Value.int IntKind.u8 0] 30)).alloc (.cells #[Value.int IntKind.u8 0, Value.int IntKind.u8 0, Value.int IntKind.u8 0, Value.int IntKind.u8 0, Value.int IntKind.u8 0, Value.int IntKind.u8 0, Value.int IntKind.u8 0, Value.int IntKind.u8 0] 30) = w1 at *
 refine wp_region_noPanic ?_
 refine wp_region_held_drew (S := fun _ => True) (by kernel_rfl) trivial (fun _ => ?_)
 have R1v : Hid (w1.drew.heap[w.heap.size + 1]? = some (.cells #[Value.int IntKind.u8 0, Value.int IntKind.u8 0, Value.int IntKind.u8 0, Value.int IntKind.u8 0, Value.int IntKind.u8 0, Value.int IntKind.u8 0, Value.int IntKind.u8 0, Value.int IntKind.u8 0] 30 (0, 0))) := R1.out
 have R0v : Hid (w1.drew.heap[w.heap.size]? = some (.cells #[Value.int IntKind.u8 0, Value.int IntKind.u8 0, Value.int IntKind.u8 0, Value.int IntKind.u8 0, Value.int IntKind.u8 0, Value.int IntKind.u8 0, Value.int IntKind.u8 0, Value.int IntKind.u8 0] 30 (0, 0))) := R0.out
 have Bv : Hid (Below w.heap.size w w1.drew) := B0.out.drew
 clear R1 R0 B0
 generalize w1.drew = v0 at *
 refine take_val 0 (.agg #[]) rfl (by kernel_rfl) (by kernel_rfl) (by kernel_rfl) (fun _ _ _ _ h => h) (by rfl) rfl (fun w _ => by go_simp) trivial ?_
 try simp only [List.set_cons_zero, List.set_cons_succ]
 refine take_val 1 (.slice (some ⟨w.heap.size + 1, 0, none⟩) 8 8) rfl (by kernel_rfl) (by kernel_rfl) (by kernel_rfl) (fun _ _ _ _ h => h) (by rfl) rfl (fun w _ => by go_simp) trivial ?_
 try simp only [List.set_cons_zero, List.set_cons_succ]
 refine take_val 2 (.string s) rfl (by kernel_rfl) (by kernel_rfl) (by kernel_rfl) (fun _ _ _ _ h => h) (by rfl) rfl (fun w _ => by go_simp) trivial ?_
 try simp only [List.set_cons_zero, List.set_cons_succ]
 refine one_ready 3 (by kernel_rfl) rfl (by rfl) (fun K hK => ?_)
 go_simp
 refine (HC.out _).mono ?_
 rintro e v1 ⟨rfl, hb1⟩
 go_wp2_with fail
 refine hK.out _ _ trivial ?_
 clear hK K
 try simp only [Act.put, List.setIfInBounds_toArray, List.set_cons_zero, List.set_cons_succ]
 have R1w := Lib.hid ((hb1.block _ (lt_of_block R1v.out)).trans R1v.out)
 have R0w := Lib.hid ((hb1.block _ (lt_of_block R0v.out)).trans R0v.out)
 have Bw := Lib.hid (Below.step Bv.out hb1)
 clear R1v R0v Bv hb1
 refine one_ready 4 (by kernel_rfl) rfl (by rfl) (fun K hK => ?_)
 go_simp
 refine (HP.out _ _ R1w.out).mono ?_
 rintro e v2 ⟨⟨vv, rfl⟩, hr2, hb2⟩
 go_wp2_with fail
 refine hK.out _ _ trivial ?_
 clear hK K
 try simp only [Act.put, List.setIfInBounds_toArray, List.set_cons_zero, List.set_cons_succ]
 have R1x := Lib.hid hr2
 have R0x := Lib.hid ((hb2.block w.heap.size (Nat.lt_succ_self _)).trans R0w.out)
 have Bx : Hid (Below w.heap.size w v2) := Below.trans Bw.out (hb2.mono (Nat.le_succ _))
 clear R1w R0w Bw hr2 hb2
 refine wpAnyH_done (by kernel_rfl) ?_ _
 refine NoPanic.normal ?_
 have hth : Hid (v2.there w.heap.size 0 C.size) := by
  rw [hlen.out]
  intro j hj
  rw [Nat.zero_add, cell_of_row _ _ _ _ _ _ R0x.out, Array.getElem?_eq_getElem hj]
  exact ⟨rfl, frozen_of_row _ _ _ _ _ R0x.out⟩
 have ic : Hid ((Tryz.prog.info? 30).map (·.size) = some C.size) := by rw [hlen.out]; exact i51.out
 go_wp2_with (first
  | (with_reducible refine wpList_load_row rfl 30 (.tmp 3) rfl (w.heap.size + 1) rfl 30 C (0, 0) _ R1x.out Tryz.underlying30 rfl ?_ ?_; exact ic.out)
  | (with_reducible refine wpList_store_mid rfl 30 (.tmp 2) (.tmp 9) rfl w.heap.size 0 C rfl rfl hth.out ic.out hone.out ?_))
 exact bodyPost_ret (v := .agg C) (results_cell_row (p := 2) (ty := 30) rfl _ _ w.heap.size 30 C (0, 0) _ rfl (setCells_full R0x.out _ (by rw [hlen.out]; rfl)) Tryz.underlying30 rfl ic.out) rfl ⟨rfl, below_setCells (Nat.le_refl _) _ _ Bx.out⟩
end Go.Proofs.YtbfoonfbhebhfaaGreatDoor
namespace Go.Proofs.YtbfoonfbhebhfaaGreatDoor
theorem run_isAgg_int {P : Program} (w : World) {e : TypeId} {k : IntKind} (he : P.underlying e = some (.int k)) : (isAgg e).run P w = .ok false w := by
 unfold isAgg
 rw [Sem.run_bind, run_underlying he w]
 rfl
end Go.Proofs.YtbfoonfbhebhfaaGreatDoor
namespace Go.Proofs.YtbfoonfbhebhfaaGreatDoor
open Plain
def bC (l : List Nat) : Array Value := (l.map bV).toArray
theorem bC_size (l : List Nat) : (bC l).size = l.length := by simp [bC]
theorem ext_getD {a b : List Nat} (h : a.length = b.length) (h2 : ∀ i, i < a.length → a.getD i 0 = b.getD i 0) : a = b := by
 apply List.ext_getElem h
 intro i h1 h3
 have := h2 i h1
 simpa [List.getD_eq_getElem?_getD, List.getElem?_eq_getElem h1, List.getElem?_eq_getElem h3] using this
theorem bC_get (l : List Nat) (i : Nat) (h : i < l.length) : (bC l)[i]? = some (.int .u8 ((l.getD i 0 : Nat) : Int)) := by
 simp [bC, List.getElem?_map, List.getD_eq_getElem?_getD, List.getElem?_eq_getElem h, bV]
theorem run_part_byte {P : Program} (w : World) {e : TypeId} {k : IntKind} (he : P.underlying e = some (.int k)) (l : List Nat) (i : Nat) (h : i < l.length) : (part e (bC l) i).run P w = .ok (.int .u8 ((l.getD i 0 : Nat) : Int)) w := by
 unfold part
 rw [Sem.run_bind, run_isAgg_int w he]
 simp [Result.andThen, bC_get l i h]
theorem run_eqItems_bytes {P : Program} (d : Nat) {e : TypeId} {k : IntKind} (he : P.underlying e = some (.int k)) (l m : List Nat) (w : World) : ∀ (is : List Nat), (∀ i ∈ is, i < l.length ∧ i < m.length) →
  (Op.eqItems (d + 1) e 1 (bC l) (bC m) is).run P w = .ok (is.all fun i => l.getD i 0 == m.getD i 0) w
 | [], _ => by simp [Op.eqItems]
 | i :: is, h => by
  have hi := h i (by simp)
  have ih := run_eqItems_bytes d he l m w is (fun j hj => h j (by simp [hj]))
  simp only [Op.eqItems, Sem.run_bind, Nat.mul_one, List.all_cons, run_part_byte w he l i hi.1, run_part_byte w he m i hi.2, Result.andThen_ok, Op.equalIn, run_underlying he, if_true, Sem.run_pure]
  generalize l.getD i 0 = x at *
  generalize m.getD i 0 = y at *
  have hb : (((x : Nat) : Int) == ((y : Nat) : Int)) = (x == y) := by
   rw [Bool.eq_iff_iff, beq_iff_eq, beq_iff_eq]; omega
  rw [hb]
  cases c : (x == y)
  ·
   rfl
  ·
   simp only [Bool.not_true, Bool.false_eq_true, if_false, Bool.true_and]
   exact ih
theorem all_range_eq (l m : List Nat) (n : Nat) (hl : l.length = n) (hm : m.length = n) : ((List.range n).all fun i => l.getD i 0 == m.getD i 0) = decide (l = m) := by
 rw [Bool.eq_iff_iff]
 simp only [List.all_eq_true, List.mem_range, beq_iff_eq, decide_eq_true_eq]
 constructor
 ·
  intro h
  exact ext_getD (by rw [hl, hm]) (fun i hi => h i (by omega))
 ·
  rintro rfl i _; rfl
theorem run_equal_bytes {P : Program} (w : World) {t e : TypeId} {n : Nat} {k : IntKind} {inf : TypeInfo} (ht : P.underlying t = some (.array n e)) (he : P.underlying e = some (.int k)) (hi : P.info? e = some inf) (hc : P.cellsOf e = 1)
  (l m : List Nat) (hl : l.length = n) (hm : m.length = n) : (Op.equal t (.agg (bC l)) (.agg (bC m))).run P w = .ok (decide (l = m)) w := by
 unfold Op.equal Op.maxDepth
 rw [run_equalIn_array w 9999 (bC l) (bC m) ht hi, hc, run_eqItems_bytes 9998 he l m w _ (fun i h => by rw [List.mem_range] at h; omega), all_range_eq l m n hl hm]
theorem run_eql_bytes {P : Program} (w : World) {t e : TypeId} {n : Nat} {k : IntKind} {inf : TypeInfo} (ht : P.underlying t = some (.array n e)) (he : P.underlying e = some (.int k)) (hi : P.info? e = some inf) (hc : P.cellsOf e = 1)
  (l m : List Nat) (hl : l.length = n) (hm : m.length = n) : (binOp .eql t (.agg (bC l)) (.agg (bC m))).run P w = .ok (.bool (decide (l = m))) w := by
 unfold binOp
 simp only [Sem.run_bind, run_equal_bytes w ht he hi hc l m hl hm, Result.andThen_ok, Sem.run_pure]
end Go.Proofs.YtbfoonfbhebhfaaGreatDoor
namespace Go.Proofs.YtbfoonfbhebhfaaGreatDoor
open Go.RowKit
theorem own_formK {w : World} {base : Nat} {e : TypeId} {k : Nat} {v : Value} {n : Nat} {xs : List Value} (h : w.ownsRow base e k v n xs) : ∃ a c, v = .slice a n c := by
 rcases h.2 with ⟨hv, h3⟩ | ⟨g, cap, cur, hv, _⟩
 ·
  exact ⟨none, 0, by rw [hv, h3]⟩
 ·
  exact ⟨_, _, hv⟩
theorem own_belowK {w w' : World} {base : Nat} {e : TypeId} {k : Nat} {v : Value} {n : Nat} {xs : List Value} (h : w.ownsRow base e k v n xs) (hb : Below w.heap.size w w') : w'.ownsRow base e k v n xs := by
 refine ⟨h.1, ?_⟩
 rcases h.2 with hv | ⟨g, cap, cur, hv, hB, hg, h3⟩
 ·
  exact .inl hv
 ·
  exact .inr ⟨g, cap, cur, hv, hB, (hb.block g (lt_of_block hg)).trans hg, h3⟩
end Go.Proofs.YtbfoonfbhebhfaaGreatDoor
namespace Go.Proofs.YtbfoonfbhebhfaaGreatDoor
open Go.RowKit Go.Sort
variable {α : Type} [Inhabited α] {k : Nat} {c : α → List Value} {w w0 : World} {base g cap : Nat} {T : TypeId} {l : List α}
omit [Inhabited α] in
theorem own_block (h : w.ownsRow base T k (.slice (some ⟨g, 0, none⟩) l.length cap) l.length (l.flatMap c)) : base ≤ g ∧ g < w.heap.size ∧ l.length ≤ cap ∧ cap ≤ 9223372036854775807 ∧ ∃ cur, w.heap[g]? = some (.cells cur T (0, 0)) ∧ cur.size = cap * k ∧ cur.toList.take (l.length * k) = l.flatMap c := by
 rcases h.2 with ⟨e0, _⟩ | ⟨g', cap', cur, e0, hb, hg, hn, hm, hs, ht⟩
 ·
  cases e0
 ·
  injection e0 with e1 _ e3
  injection e1 with e1
  injection e1 with e1
  subst e1
  subst e3
  exact ⟨hb, lt_of_block hg, hn, by unfold maxLen at hm; exact hm, cur, hg, hs, ht⟩
end Go.Proofs.YtbfoonfbhebhfaaGreatDoor
namespace Go.Proofs.YtbfoonfbhebhfaaGreatDoor
open Go.RowKit
set_option linter.unusedVariables false
set_option linter.unusedSimpArgs false
section
variable {α : Type} {k : Nat} {c : α → List Value} {w w0 : World} {base g cap n : Nat} {T : TypeId} {l : List α}
end
end Go.Proofs.YtbfoonfbhebhfaaGreatDoor
namespace Go.Proofs.YtbfoonfbhebhfaaGreatDoor
open Go.RowKit
section
variable {P : Program} {w : World}
theorem wp_append_run {o : Oper} {a : Act} {K : Act → World → Prop} {Q : Exit → Act → World → Prop} (s x : Operand) (t : TypeId)
  (ho : o.op = .call { callee := .builtin .append, args := #[s, x], argTypes := #[t, t] }) {v xv v' : Value} {w' : World} (hs : a.eval s = v) (hx : a.eval x = xv)
  (hr : (Builtin.append_ #[t, t] o.type #[v, xv]).run P w = .ok v' w') (h : K (a.put o.dst v') w') : o.wp P a w K Q := by
 unfold Oper.wp execOp
 simp only [ho, resolve, invoke, builtin, Sem.run_bind, Sem.run_pure, Result.andThen_ok, List.map_toArray, List.map_cons, List.map_nil, hs, hx, hr]
 exact h
end
end Go.Proofs.YtbfoonfbhebhfaaGreatDoor
namespace Go.Proofs.YtbfoonfbhebhfaaGreatDoor
open Go.RowKit
set_option linter.unusedVariables false
set_option linter.unusedSimpArgs false
theorem heap_twoK (w : World) (o1 o2 : Obj) : ((w.alloc o1).alloc o2).heap[w.heap.size]? = some o1 ∧ ((w.alloc o1).alloc o2).heap[w.heap.size + 1]? = some o2 := by
 constructor
 ·
  exact (Below.heap_alloc (w.alloc o1) o2 w.heap.size (by simp)).trans (heap_alloc_new w o1)
 ·
  have := heap_alloc_new (w.alloc o1) o2
  simpa using this
theorem SAt.keep {α : Type} {n : Nat} {c : α → List Value} {w w' : World} {a : Option Addr} {l : List α} (h : SAt n c w a l) (hs : w.heap.size ≤ w'.heap.size) (hb : ∀ ad, a = some ad → w'.heap[ad.block]? = w.heap[ad.block]?) : SAt n c w' a l := fun i hi => by
 obtain ⟨b, off, e, hbl, hr⟩ := h i hi
 refine ⟨b, off, e, Nat.lt_of_lt_of_le hbl hs, fun j u hu => ?_⟩
 rw [World.cell?_of_block (a := ⟨b, off + i * n + j, none⟩) (hb ⟨b, off, none⟩ e)]
 exact hr j u hu
theorem there_part {w : World} {b o n : Nat} {full : Array Value} {T : TypeId} (h : w.heap[b]? = some (.cells full T (0, 0))) (hn : o + n ≤ full.size) : w.there b o n := fun j hj => by
 refine ⟨?_, frozen_of_row _ _ _ _ _ h⟩
 rw [cell_of_row _ _ _ _ _ _ h, Array.getElem?_eq_getElem (by omega)]
 rfl
theorem wp_call_run {P : Program} {o : Oper} {a : Act} {w : World} {K : Act → World → Prop} {Q : Exit → Act → World → Prop} {f : FuncId} {args : Array Value} {post : Ending → World → Prop} (he : (execOp a.eval o).run P w = .ok (.enter f args) w) (hc : Calls P f args w post)
  (h : ∀ e w', post e w' → ∃ v, e = .returned v ∧ K (a.put o.dst v) w') : o.wp P a w K Q := by
 unfold Oper.wp
 rw [he]
 refine Calls.mono hc ?_
 rintro e w' hp
 obtain ⟨v, rfl, hk⟩ := h e w' hp
 exact hk
end Go.Proofs.YtbfoonfbhebhfaaGreatDoor
namespace Go.Proofs.YtbfoonfbhebhfaaGreatDoor
open Go.RowKit
set_option linter.unusedVariables false
theorem src_sat {α : Type} {P : Program} {size : Nat} {cf : α → List Value} {w : World} {a : Option Addr} {l : List α} {tx e : TypeId} (hk : P.underlying tx = some (.slice e)) (hsz : 0 < size) (hc : ∀ y, (cf y).length = size) (h1 : ∀ y, ∀ u ∈ cf y, u.oneCell' = true) (h : SAt size cf w a l) (c : Nat) : Src P size tx (.slice a l.length c) l.length (l.flatMap cf) w := by
 by_cases hl : l = []
 ·
  subst hl
  cases a with
  | none => exact Src.ofNil w hk c
  | some ad => exact Src.ofSlice w hk ad 0 c [] (by simp) (by simp) (by simp)
 ·
  obtain ⟨g, off, rfl, _⟩ := h 0 (by have := List.length_pos_iff.2 hl; omega)
  exact Src.ofSlice w hk ⟨g, off, none⟩ l.length c (l.flatMap cf) (flat_length hc l) (sat_cells hsz hc h) (fun u hu => by
   obtain ⟨y, _, hy⟩ := List.mem_flatMap.1 hu
   exact h1 y u hy)
theorem row_mid {w : World} {g : Nat} {t : TypeId} (xs ys zs news : List Value) (h : w.heap[g]? = some (.cells (xs ++ ys ++ zs).toArray t (0, 0))) (hl : ys.length = news.length) : (w.setCells g xs.length news).heap[g]? = some (.cells (xs ++ news ++ zs).toArray t (0, 0)) := by
 obtain ⟨cs, h1, h2, h3⟩ := heap_setCells g t news xs.length w _ h
 rw [h1]
 congr 2
 apply Array.ext_getElem?
 intro i
 rw [h3]
 simp only [List.getElem?_toArray, List.size_toArray, List.length_append]
 by_cases c1 : i < xs.length
 ·
  rw [if_neg (by omega), List.append_assoc, List.append_assoc, List.getElem?_append_left c1, List.getElem?_append_left c1]
 ·
  by_cases c2 : i < xs.length + news.length
  ·
   rw [if_pos (by omega), List.getElem?_append_left (by rw [List.length_append]; omega), List.getElem?_append_right (by omega)]
  ·
   rw [if_neg (by omega), List.getElem?_append_right (by rw [List.length_append]; omega), List.getElem?_append_right (by rw [List.length_append]; omega), List.length_append, List.length_append, hl]
theorem row_is {w : World} {g : Nat} {t : TypeId} {cs : Array Value} (h : w.heap[g]? = some (.cells cs t (0, 0))) (o n : Nat) (hn : o + n ≤ cs.size) : (∀ j, j < n → (w.cell? ⟨g, o + j, none⟩).isSome = true) ∧ ∀ j, j < n → w.frozen? ⟨g, o + j, none⟩ = false := by
 refine ⟨fun j hj => ?_, fun j hj => frozen_of_row _ _ _ _ _ h⟩
 rw [cell_of_row _ _ _ _ _ _ h, Array.getElem?_eq_getElem (by omega)]
 rfl
def Amp {α : Type} (c : α → List Value) (z : List Value) (t : TypeId) (w : World) (g : Nat) (l : List α) (f : α) : Prop := w.heap[g]? = some (.cells (l.flatMap c ++ (c f ++ c f) ++ z).toArray t (0, 0))
theorem Amp.below {α : Type} {c : α → List Value} {z : List Value} {t : TypeId} {w w' : World} {g : Nat} {l : List α} {f : α} (h : Amp c z t w g l f) (hb : Below w.heap.size w w') : Amp c z t w' g l f := (hb.block _ (lt_of_block h)).trans h
theorem Amp.sat {α : Type} {c : α → List Value} {z : List Value} {t : TypeId} {w : World} {g n : Nat} {l : List α} {f : α} (h : Amp c z t w g l f) (hc : ∀ y, (c y).length = n) : SAt n c w (some ⟨g, 0, none⟩) l := fun i hi => by
 refine ⟨g, 0, rfl, lt_of_block h, fun j u hu => ?_⟩
 have hj : j < n := by
  rcases Nat.lt_or_ge j n with h | h
  ·
   exact h
  ·
   rw [List.getElem?_eq_none (by rw [hc]; exact h)] at hu; cases hu
 have hlt : i * n + j < l.length * n := by
  have : (i + 1) * n ≤ l.length * n := Nat.mul_le_mul_right _ hi
  rw [Nat.succ_mul] at this
  omega
 rw [Nat.zero_add, cell_of_row _ _ _ _ _ _ h, List.getElem?_toArray, List.append_assoc, List.getElem?_append_left (by rw [flat_length hc]; exact hlt), flat_get hc l i j hi hj]
 exact hu
theorem Amp.fill {α : Type} {c : α → List Value} {z : List Value} {t : TypeId} {w : World} {g n : Nat} {l : List α} {f : α} (h : Amp c z t w g l f) (hc : ∀ y, (c y).length = n) (k j : Nat) (hk : k < 2) (hj : j < n) : w.cell? ⟨g, (l.length + k) * n + j, none⟩ = (c f)[j]? := by
 have hle : (l.length + k) * n + j = l.length * n + (k * n + j) := by rw [Nat.add_mul, Nat.add_assoc]
 have hkn : k * n + j < 2 * n := by
  have : (k + 1) * n ≤ 2 * n := Nat.mul_le_mul_right _ hk
  rw [Nat.succ_mul] at this
  omega
 rw [cell_of_row _ _ _ _ _ _ h, List.getElem?_toArray, hle, List.append_assoc, List.getElem?_append_right (by rw [flat_length hc]; omega), flat_length hc, Nat.add_sub_cancel_left, List.getElem?_append_left (by rw [List.length_append, hc]; omega)]
 match k, hk with
 | 0, _ => rw [Nat.zero_mul, Nat.zero_add, List.getElem?_append_left (by rw [hc]; exact hj)]
 | 1, _ => rw [Nat.one_mul, List.getElem?_append_right (by rw [hc]; omega), hc, Nat.add_sub_cancel_left]
end Go.Proofs.YtbfoonfbhebhfaaGreatDoor
namespace Go.Proofs.YtbfoonfbhebhfaaGreatDoor
open Go.RowKit
set_option linter.unusedVariables false
theorem row_full {w : World} {b : Nat} {t : TypeId} {cs : Array Value} {ns : Array Value} (h : w.heap[b]? = some (.cells cs t (0, 0))) (hn : cs.size = ns.size) : (w.setCells b 0 ns.toList).heap[b]? = some (.cells ns t (0, 0)) := by
 have := row_mid [] cs.toList [] ns.toList (w := w) (g := b) (t := t) (by simpa using h) (by simpa using hn)
 simpa using this
end Go.Proofs.YtbfoonfbhebhfaaGreatDoor
namespace Go.Proofs.YtbfoonfbhebhfaaGreatDoor
open Go.RowKit Plain
set_option linter.unusedVariables false
set_option linter.unusedSimpArgs false
abbrev Bl := Int × ByteArray
def blC (b : Bl) : List Value := [.int .i64 b.1, .string b.2]
theorem blC_length (b : Bl) : (blC b).length = 2 := rfl
theorem blC_one (b : Bl) : ∀ u ∈ blC b, u.oneCell' = true := by intro u hu; simp only [blC, List.mem_cons, List.not_mem_nil, or_false] at hu; rcases hu with rfl | rfl <;> rfl
def pcode (b : Bl) : Nat := if 1 ≤ b.1 ∧ b.1 ≤ 3 then (if 4096 < b.2.size then 2 else 0) else 5
def z8 : List Nat := [0, 0, 0, 0, 0, 0, 0, 0]
def pidL (b : Bl) : List Nat := if pcode b = 0 then be8 (hsum (b.1.toNat :: strN b.2)) else z8
theorem pcode_kind {b : Bl} (h : ¬ (1 ≤ b.1 ∧ b.1 ≤ 3)) : pcode b = 5 := by unfold pcode; rw [if_neg h]
theorem pcode_large {b : Bl} (h : 1 ≤ b.1 ∧ b.1 ≤ 3) (h1 : 4096 < b.2.size) : pcode b = 2 := by unfold pcode; rw [if_pos h, if_pos h1]
theorem pcode_ok {b : Bl} (h : 1 ≤ b.1 ∧ b.1 ≤ 3) (h1 : ¬ 4096 < b.2.size) : pcode b = 0 := by unfold pcode; rw [if_pos h, if_neg h1]
theorem pidL_bad {b : Bl} (h : pcode b ≠ 0) : pidL b = z8 := by unfold pidL; rw [if_neg h]
theorem pidL_ok {b : Bl} (h : pcode b = 0) : pidL b = be8 (hsum (b.1.toNat :: strN b.2)) := by unfold pidL; rw [if_pos h]
theorem pidL_length (b : Bl) : (pidL b).length = 8 := by unfold pidL; split <;> rfl
theorem pidL_lt (b : Bl) : ∀ c ∈ pidL b, c < 256 := by
 unfold pidL
 split
 ·
  exact be8_lt _
 ·
  intro c hc; simp only [z8, List.mem_cons, List.not_mem_nil, or_false] at hc; omega
set_option maxRecDepth 100000 in
theorem pkn_any (k : Int) (w : World) : Calls Tryz.prog 61 #[.int .i64 k] w fun e w' => e = .returned (.bool (decide (1 ≤ k ∧ k ≤ 3))) ∧ w' = w := by
 by_cases h1 : 1 ≤ k
 ·
  by_cases h2 : k ≤ 3
  ·
   have hd : decide (1 ≤ k ∧ k ≤ 3) = true := decide_eq_true ⟨h1, h2⟩
   rw [hd]
   clear hd
   go_enter Tryz.func61, Tryz.ntmps61
   go_wp2_with fail
   go_ret
   exact ⟨rfl, rfl⟩
  ·
   have hd : decide (1 ≤ k ∧ k ≤ 3) = false := decide_eq_false (fun h => h2 h.2)
   rw [hd]
   clear hd
   go_enter Tryz.func61, Tryz.ntmps61
   go_wp2_with fail
   go_ret
   exact ⟨rfl, rfl⟩
 ·
  have hd : decide (1 ≤ k ∧ k ≤ 3) = false := decide_eq_false (fun h => h1 h.1)
  rw [hd]
  clear hd
  go_enter Tryz.func61, Tryz.ntmps61
  go_wp2_with fail
  go_ret
  exact ⟨rfl, rfl⟩
def PidEnd (b : Bl) (w0 : World) (e : Ending) (w : World) : Prop := e = .returned (.tuple #[.agg (bC (pidL b)), .int .i64 (pcode b : Int)]) ∧ Below w0.heap.size w0 w
abbrev z8A : Array Value := #[.int .u8 0, .int .u8 0, .int .u8 0, .int .u8 0, .int .u8 0, .int .u8 0, .int .u8 0, .int .u8 0]
theorem bC_z8 : bC z8 = z8A := rfl
theorem info_id8 : (Tryz.prog.info? 30).map (·.size) = some 8 := by kernel_rfl
theorem info_idB {l : List Nat} (hl : l.length = 8) : (Tryz.prog.info? 30).map (·.size) = some (bC l).size := by rw [bC_size, hl]; exact info_id8
theorem there_idB {w : World} {B : Nat} {l : List Nat} {cs : Array Value} {T : TypeId} (h : w.heap[B]? = some (.cells cs T (0, 0))) (hc : cs.size = 8) (hl : l.length = 8) : w.there B 0 (bC l).size := there_part h (by rw [bC_size, hl, hc]; omega)
theorem row_idB {w : World} {B : Nat} {l : List Nat} {cs : Array Value} {T : TypeId} (h : w.heap[B]? = some (.cells cs T (0, 0))) (hc : cs.size = 8) (hl : l.length = 8) : (w.setCells B 0 (bC l).toList).heap[B]? = some (.cells (bC l) T (0, 0)) := row_full h (by rw [bC_size, hl, hc])
theorem bC_oneP (l : List Nat) : (bC l).all (·.oneCell') = true := bC_one l
set_option maxRecDepth 100000 in
set_option maxHeartbeats 4000000 in
theorem pid_any (b : Bl) (w : World) : Calls Tryz.prog 23 #[.agg #[.int .i64 b.1, .string b.2]] w (PidEnd b w) := by
 obtain ⟨k, s⟩ := b
 have h2 := heap_twoK w (.cells #[.int .i64 k, .string s] 37) (.cells z8A 30)
 have c0 := cell_of_row _ _ 0 _ _ _ h2.1
 have c1 := cell_of_row _ _ 1 _ _ _ h2.1
 simp only [List.getElem?_toArray, List.getElem?_cons_succ, List.getElem?_cons_zero] at c0 c1
 have HR2 := Lib.hid h2.2
 have HB2 := Lib.hid (((Below.refl w.heap.size w).alloc (Nat.le_refl _) (.cells #[.int .i64 k, .string s] 37)).alloc (by simp) (.cells z8A 30))
 have HTH0 : Hid (((w.alloc (.cells #[.int .i64 k, .string s] 37)).alloc (.cells z8A 30)).there (w.heap.size + 1) 0 z8A.size) := there_part h2.2 (by show 0 + 8 ≤ 8; omega)
 have HI0 : Hid ((Tryz.prog.info? 30).map (·.size) = some z8A.size) := info_id8
 have HO0 : Hid (z8A.all (·.oneCell') = true) := by show _ = _; simp [Value.oneCell']
 have HRW0 : Hid ((((w.alloc (.cells #[.int .i64 k, .string s] 37)).alloc (.cells z8A 30)).setCells (w.heap.size + 1) 0 z8A.toList).heap[w.heap.size + 1]? = some (.cells z8A 30 (0, 0))) := row_full h2.2 rfl
 have HBW0 : Hid (Below w.heap.size w (((w.alloc (.cells #[.int .i64 k, .string s] 37)).alloc (.cells z8A 30)).setCells (w.heap.size + 1) 0 z8A.toList)) := below_setCells (Nat.le_succ _) _ _ HB2.out
 clear h2
 have HK := Lib.hid fun wx => pkn_any k wx
 go_enter Tryz.func23, Tryz.ntmps23
 go_wp2_with fail
 refine (HK.out _).mono ?_
 rintro e w1 ⟨rfl, rfl⟩
 by_cases hk : 1 ≤ k ∧ k ≤ 3
 ·
  rw [decide_eq_true hk]
  by_cases hs : 4096 < s.size
  ·
   have z1 : (4096 : Int) < (s.size : Int) := by omega
   have HP : Hid (pcode (k, s) = 2) := pcode_large hk hs
   clear hk hs
   go_wp2_with (with_reducible refine wpList_store_mid rfl 30 (.tmp 2) (.tmp 15) rfl (w.heap.size + 1) 0 z8A rfl rfl HTH0.out HI0.out HO0.out ?_)
   refine bodyPost_ret (results_row_tmp1 rfl _ _ (w.heap.size + 1) 30 z8A (0, 0) _ rfl HRW0.out Tryz.underlying30 rfl HI0.out) rfl ?_
   exact ⟨by rw [HP.out, pidL_bad (by rw [HP.out]; decide), bC_z8]; rfl, HBW0.out⟩
  ·
   have z1 : ¬ (4096 : Int) < (s.size : Int) := by omega
   have hp := pcode_ok (b := (k, s)) hk hs
   have hid := pidL_ok hp
   obtain ⟨n, rfl⟩ := Int.eq_ofNat_of_zero_le (show 0 ≤ k by omega)
   have z2 : (0 : Int) ≤ (n : Int) := Int.natCast_nonneg _
   have z3 : (n : Int) < 256 := by omega
   have hcv := conv1 n (by omega) ((w.alloc (.cells #[.int .i64 (n : Int), .string s] 37)).alloc (.cells z8A 30))
   simp only [World.size_alloc] at hcv
   have hmx : ¬ 9223372036854775807 < (strOf [n]).size + s.size := by rw [strOf_size]; show ¬ _ < 1 + _; omega
   have HID := Lib.hid fun wx => id_any (strOf [n] ++ s) wx (by rw [ByteArray.size_append]; omega)
   have hst : strN (strOf [n] ++ s) = n :: strN s := by rw [strN_add, strN_strOf [n] (by intro c hc; rw [List.mem_singleton] at hc; omega)]; rfl
   rw [hst] at HID
   rw [Int.toNat_natCast] at hid
   have HPC := Lib.hid hp
   have HPI := Lib.hid hid
   have hbl : (be8 (hsum (n :: strN s))).length = 8 := rfl
   generalize be8 (hsum (n :: strN s)) = idl at *
   have HBL := Lib.hid hbl
   clear hk hs hst hp hid hbl HTH0 HRW0 HBW0
   go_wp2_with fail
   refine (HID.out _).mono ?_
   rintro e w3 ⟨rfl, hb3⟩
   clear hcv
   have hb2' := HB2.out.alloc HB2.out.size (.cells #[.int .u8 (n : Int)] 5)
   have HB3 := Lib.hid (hb2'.trans (hb3.mono hb2'.size))
   have hr3 : w3.heap[w.heap.size + 1]? = some (.cells z8A 30 (0, 0)) := (hb3.block _ (by simp)).trans ((Below.heap_alloc _ _ _ (by simp)).trans HR2.out)
   have HTH : Hid (w3.there (w.heap.size + 1) 0 (bC idl).size) := there_idB hr3 rfl HBL.out
   have HIB : Hid ((Tryz.prog.info? 30).map (·.size) = some (bC idl).size) := info_idB HBL.out
   have HOB : Hid ((bC idl).all (·.oneCell') = true) := bC_oneP idl
   have HRW : Hid ((w3.setCells (w.heap.size + 1) 0 (bC idl).toList).heap[w.heap.size + 1]? = some (.cells (bC idl) 30 (0, 0))) := row_idB hr3 rfl HBL.out
   have HBW : Hid (Below w.heap.size w (w3.setCells (w.heap.size + 1) 0 (bC idl).toList)) := below_setCells (Nat.le_succ _) _ _ HB3.out
   clear hb3 hb2' hr3
   go_wp2_with (with_reducible refine wpList_store_mid rfl 30 (.tmp 2) (.tmp 24) rfl (w.heap.size + 1) 0 (bC idl) rfl rfl HTH.out HIB.out HOB.out ?_)
   refine bodyPost_ret (results_row_tmp1 rfl _ _ (w.heap.size + 1) 30 (bC idl) (0, 0) _ rfl HRW.out Tryz.underlying30 rfl HIB.out) rfl ?_
   exact ⟨by rw [HPC.out, HPI.out]; rfl, HBW.out⟩
 ·
  rw [decide_eq_false hk]
  have HP : Hid (pcode (k, s) = 5) := pcode_kind hk
  clear hk
  go_wp2_with (with_reducible refine wpList_store_mid rfl 30 (.tmp 2) (.tmp 9) rfl (w.heap.size + 1) 0 z8A rfl rfl HTH0.out HI0.out HO0.out ?_)
  refine bodyPost_ret (results_row_tmp1 rfl _ _ (w.heap.size + 1) 30 z8A (0, 0) _ rfl HRW0.out Tryz.underlying30 rfl HI0.out) rfl ?_
  exact ⟨by rw [HP.out, pidL_bad (by rw [HP.out]; decide), bC_z8]; rfl, HBW0.out⟩
end Go.Proofs.YtbfoonfbhebhfaaGreatDoor
