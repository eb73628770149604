/- The walks of ample and spoil over things. -/
import Derived.Test.YtgoocmocdimnoaaStaysInt
import Derived.Test.YtgoocmocdimnoaaSweepVar
namespace Go.Proofs.Ytgoocmocdimnoaa
open Go.RowKit Plain
set_option linter.unusedVariables false
set_option linter.unusedSimpArgs false
theorem wp_append_roomK {P : Program} {w : World} {o : Oper} {a : Act} {K : Act → World → Prop} {Q : Exit → Act → World → Prop} (s x : Operand) (t tx : TypeId) (hop : o.op = Op.call { callee := Callee.builtin Builtin.append, args := #[s, x], argTypes := #[t, tx] })
    (e : TypeId) (i : TypeInfo) (size : Nat) (ht : P.underlying t = some (.slice e)) (hi : P.info? e = some i) (hsz : i.size = size)
    (b off sLen sCap : Nat) (hs : a.eval s = .slice (some ⟨b, off, none⟩) sLen sCap) (xv : Value) (hx : a.eval x = xv) (n : Nat) (news : List Value) (hsrc : Src P size tx xv n news w)
    (hroom : sLen + n ≤ sCap) (hc : ∀ j, j < news.length → (w.cell? ⟨b, off + sLen * size + j, none⟩).isSome = true) (hf : ∀ j, j < news.length → w.frozen? ⟨b, off + sLen * size + j, none⟩ = false)
    (hK : K (a.put o.dst (.slice (some ⟨b, off, none⟩) (sLen + n) sCap)) (w.setCells b (off + sLen * size) news)) : o.wp P a w K Q := by
  subst hsz
  have hrun := run_append_room_src (P := P) (w := w) t tx o.type e i ht hi b off sLen sCap xv n news hsrc hroom hc hf
  unfold Oper.wp
  simp [execOp, hop, resolve, invoke, builtin, hs, hx, hrun, Result.andThen]
  exact hK
def zT (n : Nat) : Array Value := ((List.replicate n ((none, 0, newT) : TRow)).flatMap tcC).toArray
theorem tcC_one (r : TRow) : ∀ u ∈ tcC r, u.oneCell' = true := by
  intro u hu
  simp only [tcC, List.mem_cons, List.not_mem_nil, or_false] at hu
  rcases hu with rfl | rfl | rfl <;> rfl
set_option maxRecDepth 100000 in
theorem run_make_thgs (n : Nat) (hn : n ≤ 3518437208790) (u : World) : (Instr.makeSlice 39 (.int .i64 0) (.int .i64 ((n : Int) + 3))).run Try.prog u = .ok (.slice (some ⟨u.heap.size, 0, none⟩) 0 (n + 3)) (u.alloc (.cells (zT (n + 3)) 47)) := by
  obtain ⟨i, hi, hz, hs, hb⟩ := info_parts info_thg
  have := run_make (P := Try.prog) u 39 47 i (.agg #[.slice none 0 0, .int .i64 0, .bool false]) Try.underlying39 hi hz .i64 .i64 0 ((n : Int) + 3) (by omega) (by omega) (by rw [hb]; omega) (by omega)
  rw [this, hs]
  have e : ((n : Int) + 3).toNat = n + 3 := by omega
  rw [e]
  congr 3
  generalize n + 3 = m
  apply Array.ext_getElem?
  intro k
  have hl : (List.replicate m ((none, 0, newT) : TRow)).length = m := List.length_replicate
  by_cases hk : k < m * 3
  · have hd : k = k / 3 * 3 + k % 3 := by omega
    have hm : k / 3 < (List.replicate m ((none, 0, newT) : TRow)).length := by rw [hl]; omega
    have := flat_get tcC_length (List.replicate m ((none, 0, newT) : TRow)) (k / 3) (k % 3) hm (by omega)
    rw [← hd] at this
    have hR : (zT m)[k]? = (tcC (none, 0, newT))[k % 3]? := by
      unfold zT
      rw [List.getElem?_toArray, this, List.getElem_replicate]
    rw [hR]
    simp only [madeCells, Array.getElem?_map, Array.getElem?_range, hk, if_true, Option.map_some]
    have h3 : k % 3 < 3 := by omega
    match hq : k % 3, h3 with
    | 0, _ => simp [Value.cells, tcC, newT]
    | 1, _ => simp [Value.cells, tcC, newT]
    | 2, _ => simp [Value.cells, tcC, newT]
  · have hR : (zT m)[k]? = none := by
      unfold zT
      rw [List.getElem?_toArray, List.getElem?_eq_none (by rw [flat_length tcC_length, hl]; omega)]
    rw [hR, Array.getElem?_eq_none (by simp [madeCells]; omega)]
theorem zT_split (a b : Nat) : zT (a + b) = ([] ++ (List.replicate a ((none, 0, newT) : TRow)).flatMap tcC ++ (List.replicate b ((none, 0, newT) : TRow)).flatMap tcC).toArray := by
  unfold zT
  rw [List.nil_append, ← List.flatMap_append, List.replicate_append_replicate]
theorem cells_of {w : World} {b : Nat} {t : TypeId} {cs : Array Value} (h : w.heap[b]? = some (.cells cs t (0, 0))) (news : List Value) (hn : news = cs.toList) : ∀ (j : Nat) (u : Value), news[j]? = some u → w.cell? ((⟨b, 0, none⟩ : Addr).add j) = some u := by
  intro j u hj
  subst hn
  rw [Addr.add_lit, Nat.zero_add, cell_of_row _ _ _ _ _ _ h]
  simpa using hj
/-- the row made, filled, and what is filled in at its end -/
theorem amp_steps {α : Type} {n : Nat} {c : α → List Value} (hc : ∀ y, (c y).length = n) {t : TypeId} {z : α} {l : List α} {f : α} {B : Nat} {u : World} (h : u.heap[B]? = some (.cells ((List.replicate (l.length + 3) z).flatMap c).toArray t (0, 0))) :
    (∀ j, j < (l.flatMap c).length → (u.cell? ⟨B, 0 + 0 * n + j, none⟩).isSome = true) ∧ (∀ j, j < (l.flatMap c).length → u.frozen? ⟨B, 0 + 0 * n + j, none⟩ = false) ∧
    (u.setCells B (0 + 0 * n) (l.flatMap c)).heap[B]? = some (.cells (l.flatMap c ++ (List.replicate 3 z).flatMap c).toArray t (0, 0)) := by
  have hfl : (l.flatMap c).length = l.length * n := flat_length hc l
  have e : (List.replicate (l.length + 3) z).flatMap c = [] ++ (List.replicate l.length z).flatMap c ++ (List.replicate 3 z).flatMap c := by
    rw [List.nil_append, ← List.flatMap_append, List.replicate_append_replicate]
  have hz : ((List.replicate (l.length + 3) z).flatMap c).length = (l.length + 3) * n := by rw [flat_length hc, List.length_replicate]
  have hi := row_is h 0 (l.length * n) (by rw [List.size_toArray, hz, Nat.add_mul]; omega)
  refine ⟨fun j hj => ?_, fun j hj => ?_, ?_⟩
  · rw [Nat.zero_mul, Nat.add_zero]; exact hi.1 j (by omega)
  · rw [Nat.zero_mul, Nat.add_zero]; exact hi.2 j (by omega)
  · rw [e] at h
    have := row_mid [] _ _ (l.flatMap c) h (by rw [hfl, flat_length hc, List.length_replicate])
    rw [Nat.zero_mul]
    simpa using this
theorem amp_steps2 {α : Type} {n : Nat} {c : α → List Value} (hc : ∀ y, (c y).length = n) {t : TypeId} {z : α} {l : List α} {f : α} {B : Nat} {u : World} (h : u.heap[B]? = some (.cells (l.flatMap c ++ (List.replicate 3 z).flatMap c).toArray t (0, 0))) :
    (∀ j, j < (c f ++ c f).length → (u.cell? ⟨B, 0 + (0 + l.length) * n + j, none⟩).isSome = true) ∧ (∀ j, j < (c f ++ c f).length → u.frozen? ⟨B, 0 + (0 + l.length) * n + j, none⟩ = false) ∧
    Amp c (c z) t (u.setCells B (0 + (0 + l.length) * n) (c f ++ c f)) B l f := by
  have hfl : (l.flatMap c).length = l.length * n := flat_length hc l
  have h2 : (c f ++ c f).length = 2 * n := by rw [List.length_append, hc]; omega
  have hi := row_is h (l.length * n) (2 * n) (by rw [List.size_toArray, List.length_append, hfl, flat_length hc, List.length_replicate]; omega)
  have e : (List.replicate 3 z).flatMap c = (c z ++ c z) ++ c z := by simp [List.replicate]
  rw [h2]
  refine ⟨fun j hj => ?_, fun j hj => ?_, ?_⟩
  · rw [Nat.zero_add, Nat.zero_add]; exact hi.1 j hj
  · rw [Nat.zero_add, Nat.zero_add]; exact hi.2 j hj
  · rw [e, ← List.append_assoc] at h
    have := row_mid (l.flatMap c) (c z ++ c z) (c z) (c f ++ c f) h (by simp [hc])
    rw [hfl] at this
    unfold Amp
    rw [Nat.zero_add, Nat.zero_add]
    exact this
set_option maxRecDepth 100000 in
set_option maxHeartbeats 4000000 in
theorem ampleThg_any (a : Option Addr) (cap : Nat) (l : List TRow) (fa : Option Addr) (fc : Nat) (fk : List Int) (col : Int) (fr : Bool) (w : World) (h : SAt 3 tcC w a l) (hl : l.length ≤ 3518437208780) :
    Calls Try.prog 33 #[.slice a l.length cap, .agg #[.slice fa fk.length fc, .int .i64 col, .bool fr]] w (AmEnd tcC (tcC (none, 0, newT)) 47 l (fa, fc, fk, col, fr) w) := by
  obtain ⟨i0, hi0, hz0, hz1, hz2⟩ := info_parts info_thg
  have hmk := run_make_thgs l.length (by omega)
  have HICT : Hid ((Try.prog.info? 47).map (·.size) = some 3) := by show _ = _; kernel_rfl
  have HUT := Lib.hid Try.underlying47
  have HB0 := Lib.hid ((Below.refl w.heap.size w).alloc (Nat.le_refl _) (.cells #[.slice fa fk.length fc, .int .i64 col, .bool fr] 47))
  have HX0 := Lib.hid (heap_alloc_new w (.cells #[.slice fa fk.length fc, .int .i64 col, .bool fr] 47))
  have HS := Lib.hid h
  have ew : IntKind.i64.wrap ((l.length : Int) + 3) = (l.length : Int) + 3 := wraps_i64 _ (by omega) (by omega)
  have c1 : (l.length : Int) ≤ (l.length : Int) + 3 := by omega
  have c0 : (0 : Int) ≤ (l.length : Int) := Int.natCast_nonneg _
  have HR1 : Hid (0 + l.length ≤ l.length + 3) := by show _ ≤ _; omega
  have HR2 : Hid (0 + l.length + 2 ≤ l.length + 3) := by show _ ≤ _; omega
  have HTC : Hid (tcC (fa, fc, fk, col, fr) ++ tcC (fa, fc, fk, col, fr) = [.slice fa fk.length fc, .int .i64 col, .bool fr, .slice fa fk.length fc, .int .i64 col, .bool fr]) := rfl
  clear h
  go_enter Try.func33, Try.ntmps33
  go_wp2_with fail
  have HBd : Hid (Below w.heap.size w (w.alloc (.cells #[.slice fa fk.length fc, .int .i64 col, .bool fr] 47)).drew) := HB0.out.drew
  refine wp_region_noPanic ?_
  refine wp_region_held_drew (S := fun u => u.heap[w.heap.size]? = some (.cells #[.slice fa fk.length fc, .int .i64 col, .bool fr] 47 (0, 0))) (by kernel_rfl) HX0.out (fun hS0 => ?_)
  have HS0 := Lib.hid hS0
  clear hS0
  refine take_val 0 (.slice a l.length cap) rfl (by kernel_rfl) (by kernel_rfl) (by kernel_rfl) (fun _ _ _ _ h => h) (by rfl) rfl (fun wz hS => by go_simp) HS0.out ?_
  try simp only [List.set_cons_zero, List.set_cons_succ]
  refine take_val 1 (.int .i64 (l.length : Int)) rfl (by kernel_rfl) (by kernel_rfl) (by kernel_rfl) (fun _ _ _ _ h => h) (by rfl) rfl (fun wz hS => by go_simp) HS0.out ?_
  try simp only [List.set_cons_zero, List.set_cons_succ]
  refine take_val 2 (.int .i64 ((l.length : Int) + 3)) rfl (by kernel_rfl) (by kernel_rfl) (by kernel_rfl) (fun _ _ _ _ h => h) (by rfl) rfl (fun wz hS => by go_simp) HS0.out ?_
  try simp only [List.set_cons_zero, List.set_cons_succ]
  refine take_val 4 (.slice a l.length cap) rfl (by kernel_rfl) (by kernel_rfl) (by kernel_rfl) (fun _ _ _ _ h => h) (by rfl) rfl (fun wz hS => by go_simp) HS0.out ?_
  try simp only [List.set_cons_zero, List.set_cons_succ]
  refine take_row 6 rfl (by kernel_rfl) (by kernel_rfl) (by kernel_rfl) (fun _ _ _ _ h => h) (by rfl) rfl rfl rfl (fun u hS => row_range3 hS) HUT.out rfl HICT.out HS0.out ?_
  try simp only [List.set_cons_zero, List.set_cons_succ]
  refine take_row 7 rfl (by kernel_rfl) (by kernel_rfl) (by kernel_rfl) (fun _ _ _ _ h => h) (by rfl) rfl rfl rfl (fun u hS => row_range3 hS) HUT.out rfl HICT.out HS0.out ?_
  try simp only [List.set_cons_zero, List.set_cons_succ]
  generalize (w.alloc (.cells #[.slice fa fk.length fc, .int .i64 col, .bool fr] 47)).drew = wd at *
  have HSD := Lib.hid (HS.out.below HBd.out)
  have SXwd := HS0
  have BKwd := HBd
  refine two_ready 3 8 (by kernel_rfl) rfl rfl (by rfl) (by rfl) (fun K hK => ?_) (fun K hK => ?_)
  · go_simp
    have hba : Below wd.heap.size wd (wd.alloc (.cells (zT (l.length + 3)) 47)) := (Below.refl _ _).alloc (Nat.le_refl _) _
    have BKu1 := Lib.hid (BKwd.out.alloc BKwd.out.size (.cells (zT (l.length + 3)) 47))
    have SXu1 := Lib.hid ((hba.block _ (lt_of_block SXwd.out)).trans SXwd.out)
    have MRu1 : Hid ((wd.alloc (.cells (zT (l.length + 3)) 47)).heap[wd.heap.size]? = some (.cells ((List.replicate (l.length + 3) ((none, 0, newT) : TRow)).flatMap tcC).toArray 47 (0, 0))) := heap_alloc_new wd _
    have MGu1 : Hid (w.heap.size < wd.heap.size) := lt_of_block SXwd.out
    refine hK.out _ _ SXu1.out ?_
    clear hK K
    try simp only [Act.put, List.setIfInBounds_toArray]
    try simp only [List.set_cons_zero, List.set_cons_succ]
    generalize wd.alloc (.cells (zT (l.length + 3)) 47) = u1 at *
    refine two_ready 5 8 (by kernel_rfl) rfl rfl (by rfl) (by rfl) (fun K hK => ?_) (fun K hK => ?_)
    · obtain ⟨q1, q2, q3⟩ := amp_steps tcC_length (z := ((none, 0, newT) : TRow)) (l := l) (f := ((none, 0, newT) : TRow)) MRu1.out
      refine wp_append_roomK _ _ 39 39 rfl 47 i0 3 Try.underlying39 hi0 hz1 (wd.heap.size) 0 0 (l.length + 3) rfl _ rfl l.length (l.flatMap tcC) (src_sat Try.underlying39 (by decide) tcC_length tcC_one (HS.out.below BKu1.out) cap) HR1.out q1 q2 ?_
      have BKu2 := Lib.hid (below_setCells (Nat.le_of_lt MGu1.out) (l.flatMap tcC) (0 + 0 * 3) BKu1.out)
      have SXu2 := Lib.hid ((heap_setCells_other (wd.heap.size) w.heap.size (Nat.ne_of_lt MGu1.out) (l.flatMap tcC) (0 + 0 * 3) u1).trans SXu1.out)
      have MRu2 := Lib.hid q3
      clear q1 q2 q3
      refine hK.out _ _ SXu2.out ?_
      clear hK K
      try simp only [Act.put, List.setIfInBounds_toArray]
      try simp only [List.set_cons_zero, List.set_cons_succ]
      generalize u1.setCells wd.heap.size (0 + 0 * 3) (l.flatMap tcC) = u2 at *
      refine one_ready 8 (by kernel_rfl) rfl (by rfl) (fun K hK => ?_)
      go_simp
      have hba : Below u2.heap.size u2 (u2.alloc (.cells #[.slice fa fk.length fc, .int .i64 col, .bool fr, .slice fa fk.length fc, .int .i64 col, .bool fr] 47)) := (Below.refl _ _).alloc (Nat.le_refl _) _
      have BKu3 := Lib.hid (BKu2.out.alloc BKu2.out.size (.cells #[.slice fa fk.length fc, .int .i64 col, .bool fr, .slice fa fk.length fc, .int .i64 col, .bool fr] 47))
      have SXu3 := Lib.hid ((hba.block _ (lt_of_block SXu2.out)).trans SXu2.out)
      have MRu3 := Lib.hid ((hba.block _ (lt_of_block MRu2.out)).trans MRu2.out)
      have FRu3 : Hid ((u2.alloc (.cells #[.slice fa fk.length fc, .int .i64 col, .bool fr, .slice fa fk.length fc, .int .i64 col, .bool fr] 47)).heap[u2.heap.size]? = some (.cells #[.slice fa fk.length fc, .int .i64 col, .bool fr, .slice fa fk.length fc, .int .i64 col, .bool fr] 47 (0, 0))) := heap_alloc_new u2 _
      have FM : Hid (u2.heap.size ≠ wd.heap.size) := (Nat.ne_of_lt (lt_of_block MRu2.out)).symm
      refine hK.out _ _ SXu3.out ?_
      clear hK K
      try simp only [Act.put, List.setIfInBounds_toArray]
      try simp only [List.set_cons_zero, List.set_cons_succ]
      generalize u2.alloc (.cells #[.slice fa fk.length fc, .int .i64 col, .bool fr, .slice fa fk.length fc, .int .i64 col, .bool fr] 47) = u3 at *
      refine one_ready 9 (by kernel_rfl) rfl (by rfl) (fun K hK => ?_)
      obtain ⟨q1, q2, q3⟩ := amp_steps2 tcC_length (z := ((none, 0, newT) : TRow)) (l := l) (f := ((fa, fc, fk, col, fr) : TRow)) MRu3.out
      rw [Nat.zero_add l.length] at q1 q2 q3
      refine wp_append_roomK _ _ 39 39 rfl 47 i0 3 Try.underlying39 hi0 hz1 (wd.heap.size) 0 l.length (l.length + 3) rfl _ rfl 2 (tcC (fa, fc, fk, col, fr) ++ tcC (fa, fc, fk, col, fr)) (Src.ofSlice _ Try.underlying39 ⟨u2.heap.size, 0, none⟩ 2 2 _ rfl (cells_of FRu3.out _ rfl) (fun v hv => by
        rcases List.mem_append.1 hv with h | h
        · exact tcC_one _ v h
        · exact tcC_one _ v h)) (by omega) q1 q2 ?_
      have BKE := Lib.hid (below_setCells (Nat.le_of_lt MGu1.out) (tcC (fa, fc, fk, col, fr) ++ tcC (fa, fc, fk, col, fr)) (0 + l.length * 3) BKu3.out)
      have SXE := Lib.hid ((heap_setCells_other (wd.heap.size) w.heap.size (Nat.ne_of_lt MGu1.out) (tcC (fa, fc, fk, col, fr) ++ tcC (fa, fc, fk, col, fr)) (0 + l.length * 3) u3).trans SXu3.out)
      have MRE := Lib.hid q3
      clear q1 q2 q3
      refine hK.out _ _ SXE.out ?_
      clear hK K
      try simp only [Act.put, List.setIfInBounds_toArray]
      try simp only [List.set_cons_zero, List.set_cons_succ]
      generalize u3.setCells (wd.heap.size) (0 + l.length * 3) (tcC (fa, fc, fk, col, fr) ++ tcC (fa, fc, fk, col, fr)) = uE at *
      refine one_ready 10 (by kernel_rfl) rfl (by rfl) (fun K hK => ?_)
      go_simp
      refine hK.out _ _ SXE.out ?_
      clear hK K
      try simp only [Act.put, List.setIfInBounds_toArray]
      try simp only [List.set_cons_zero, List.set_cons_succ]
      refine wpAnyH_done (by kernel_rfl) ?_ _
      refine NoPanic.normal ?_
      go_wp2_with fail
      go_ret
      exact ⟨wd.heap.size, rfl, Nat.le_of_lt MGu1.out, MRE.out, BKE.out⟩
    · go_simp
      have hba : Below u1.heap.size u1 (u1.alloc (.cells #[.slice fa fk.length fc, .int .i64 col, .bool fr, .slice fa fk.length fc, .int .i64 col, .bool fr] 47)) := (Below.refl _ _).alloc (Nat.le_refl _) _
      have BKu4 := Lib.hid (BKu1.out.alloc BKu1.out.size (.cells #[.slice fa fk.length fc, .int .i64 col, .bool fr, .slice fa fk.length fc, .int .i64 col, .bool fr] 47))
      have SXu4 := Lib.hid ((hba.block _ (lt_of_block SXu1.out)).trans SXu1.out)
      have MRu4 := Lib.hid ((hba.block _ (lt_of_block MRu1.out)).trans MRu1.out)
      have FRu4 : Hid ((u1.alloc (.cells #[.slice fa fk.length fc, .int .i64 col, .bool fr, .slice fa fk.length fc, .int .i64 col, .bool fr] 47)).heap[u1.heap.size]? = some (.cells #[.slice fa fk.length fc, .int .i64 col, .bool fr, .slice fa fk.length fc, .int .i64 col, .bool fr] 47 (0, 0))) := heap_alloc_new u1 _
      have FM : Hid (u1.heap.size ≠ wd.heap.size) := (Nat.ne_of_lt (lt_of_block MRu1.out)).symm
      refine hK.out _ _ SXu4.out ?_
      clear hK K
      try simp only [Act.put, List.setIfInBounds_toArray]
      try simp only [List.set_cons_zero, List.set_cons_succ]
      generalize u1.alloc (.cells #[.slice fa fk.length fc, .int .i64 col, .bool fr, .slice fa fk.length fc, .int .i64 col, .bool fr] 47) = u4 at *
      refine one_ready 5 (by kernel_rfl) rfl (by rfl) (fun K hK => ?_)
      obtain ⟨q1, q2, q3⟩ := amp_steps tcC_length (z := ((none, 0, newT) : TRow)) (l := l) (f := ((none, 0, newT) : TRow)) MRu4.out
      refine wp_append_roomK _ _ 39 39 rfl 47 i0 3 Try.underlying39 hi0 hz1 (wd.heap.size) 0 0 (l.length + 3) rfl _ rfl l.length (l.flatMap tcC) (src_sat Try.underlying39 (by decide) tcC_length tcC_one (HS.out.below BKu4.out) cap) HR1.out q1 q2 ?_
      have BKu5 := Lib.hid (below_setCells (Nat.le_of_lt MGu1.out) (l.flatMap tcC) (0 + 0 * 3) BKu4.out)
      have SXu5 := Lib.hid ((heap_setCells_other (wd.heap.size) w.heap.size (Nat.ne_of_lt MGu1.out) (l.flatMap tcC) (0 + 0 * 3) u4).trans SXu4.out)
      have MRu5 := Lib.hid q3
      have FRu5 := Lib.hid ((heap_setCells_other (wd.heap.size) _ FM.out (l.flatMap tcC) (0 + 0 * 3) u4).trans FRu4.out)
      clear q1 q2 q3
      refine hK.out _ _ SXu5.out ?_
      clear hK K
      try simp only [Act.put, List.setIfInBounds_toArray]
      try simp only [List.set_cons_zero, List.set_cons_succ]
      generalize u4.setCells wd.heap.size (0 + 0 * 3) (l.flatMap tcC) = u5 at *
      refine one_ready 9 (by kernel_rfl) rfl (by rfl) (fun K hK => ?_)
      obtain ⟨q1, q2, q3⟩ := amp_steps2 tcC_length (z := ((none, 0, newT) : TRow)) (l := l) (f := ((fa, fc, fk, col, fr) : TRow)) MRu5.out
      refine wp_append_roomK _ _ 39 39 rfl 47 i0 3 Try.underlying39 hi0 hz1 (wd.heap.size) 0 (0 + l.length) (l.length + 3) rfl _ rfl 2 (tcC (fa, fc, fk, col, fr) ++ tcC (fa, fc, fk, col, fr)) (Src.ofSlice _ Try.underlying39 ⟨u1.heap.size, 0, none⟩ 2 2 _ rfl (cells_of FRu5.out _ rfl) (fun v hv => by
        rcases List.mem_append.1 hv with h | h
        · exact tcC_one _ v h
        · exact tcC_one _ v h)) HR2.out q1 q2 ?_
      have BKE := Lib.hid (below_setCells (Nat.le_of_lt MGu1.out) (tcC (fa, fc, fk, col, fr) ++ tcC (fa, fc, fk, col, fr)) (0 + (0 + l.length) * 3) BKu5.out)
      have SXE := Lib.hid ((heap_setCells_other (wd.heap.size) w.heap.size (Nat.ne_of_lt MGu1.out) (tcC (fa, fc, fk, col, fr) ++ tcC (fa, fc, fk, col, fr)) (0 + (0 + l.length) * 3) u5).trans SXu5.out)
      have MRE := Lib.hid q3
      clear q1 q2 q3
      refine hK.out _ _ SXE.out ?_
      clear hK K
      try simp only [Act.put, List.setIfInBounds_toArray]
      try simp only [List.set_cons_zero, List.set_cons_succ]
      generalize u5.setCells (wd.heap.size) (0 + (0 + l.length) * 3) (tcC (fa, fc, fk, col, fr) ++ tcC (fa, fc, fk, col, fr)) = uE at *
      refine one_ready 10 (by kernel_rfl) rfl (by rfl) (fun K hK => ?_)
      go_simp
      refine hK.out _ _ SXE.out ?_
      clear hK K
      try simp only [Act.put, List.setIfInBounds_toArray]
      try simp only [List.set_cons_zero, List.set_cons_succ]
      refine wpAnyH_done (by kernel_rfl) ?_ _
      refine NoPanic.normal ?_
      go_wp2_with fail
      go_ret
      exact ⟨wd.heap.size, rfl, Nat.le_of_lt MGu1.out, MRE.out, BKE.out⟩
  · go_simp
    have hba : Below wd.heap.size wd (wd.alloc (.cells #[.slice fa fk.length fc, .int .i64 col, .bool fr, .slice fa fk.length fc, .int .i64 col, .bool fr] 47)) := (Below.refl _ _).alloc (Nat.le_refl _) _
    have BKu6 := Lib.hid (BKwd.out.alloc BKwd.out.size (.cells #[.slice fa fk.length fc, .int .i64 col, .bool fr, .slice fa fk.length fc, .int .i64 col, .bool fr] 47))
    have SXu6 := Lib.hid ((hba.block _ (lt_of_block SXwd.out)).trans SXwd.out)
    have FRu6 : Hid ((wd.alloc (.cells #[.slice fa fk.length fc, .int .i64 col, .bool fr, .slice fa fk.length fc, .int .i64 col, .bool fr] 47)).heap[wd.heap.size]? = some (.cells #[.slice fa fk.length fc, .int .i64 col, .bool fr, .slice fa fk.length fc, .int .i64 col, .bool fr] 47 (0, 0))) := heap_alloc_new wd _
    refine hK.out _ _ SXu6.out ?_
    clear hK K
    try simp only [Act.put, List.setIfInBounds_toArray]
    try simp only [List.set_cons_zero, List.set_cons_succ]
    generalize wd.alloc (.cells #[.slice fa fk.length fc, .int .i64 col, .bool fr, .slice fa fk.length fc, .int .i64 col, .bool fr] 47) = u6 at *
    refine one_ready 3 (by kernel_rfl) rfl (by rfl) (fun K hK => ?_)
    go_simp
    have hba : Below u6.heap.size u6 (u6.alloc (.cells (zT (l.length + 3)) 47)) := (Below.refl _ _).alloc (Nat.le_refl _) _
    have BKu7 := Lib.hid (BKu6.out.alloc BKu6.out.size (.cells (zT (l.length + 3)) 47))
    have SXu7 := Lib.hid ((hba.block _ (lt_of_block SXu6.out)).trans SXu6.out)
    have FRu7 := Lib.hid ((hba.block _ (lt_of_block FRu6.out)).trans FRu6.out)
    have MRu7 : Hid ((u6.alloc (.cells (zT (l.length + 3)) 47)).heap[u6.heap.size]? = some (.cells ((List.replicate (l.length + 3) ((none, 0, newT) : TRow)).flatMap tcC).toArray 47 (0, 0))) := heap_alloc_new u6 _
    have MGu7 : Hid (w.heap.size < u6.heap.size) := lt_of_block SXu6.out
    have FM : Hid (wd.heap.size ≠ u6.heap.size) := Nat.ne_of_lt (lt_of_block FRu6.out)
    refine hK.out _ _ SXu7.out ?_
    clear hK K
    try simp only [Act.put, List.setIfInBounds_toArray]
    try simp only [List.set_cons_zero, List.set_cons_succ]
    generalize u6.alloc (.cells (zT (l.length + 3)) 47) = u7 at *
    refine one_ready 5 (by kernel_rfl) rfl (by rfl) (fun K hK => ?_)
    obtain ⟨q1, q2, q3⟩ := amp_steps tcC_length (z := ((none, 0, newT) : TRow)) (l := l) (f := ((none, 0, newT) : TRow)) MRu7.out
    refine wp_append_roomK _ _ 39 39 rfl 47 i0 3 Try.underlying39 hi0 hz1 (u6.heap.size) 0 0 (l.length + 3) rfl _ rfl l.length (l.flatMap tcC) (src_sat Try.underlying39 (by decide) tcC_length tcC_one (HS.out.below BKu7.out) cap) HR1.out q1 q2 ?_
    have BKu8 := Lib.hid (below_setCells (Nat.le_of_lt MGu7.out) (l.flatMap tcC) (0 + 0 * 3) BKu7.out)
    have SXu8 := Lib.hid ((heap_setCells_other (u6.heap.size) w.heap.size (Nat.ne_of_lt MGu7.out) (l.flatMap tcC) (0 + 0 * 3) u7).trans SXu7.out)
    have MRu8 := Lib.hid q3
    have FRu8 := Lib.hid ((heap_setCells_other (u6.heap.size) _ FM.out (l.flatMap tcC) (0 + 0 * 3) u7).trans FRu7.out)
    clear q1 q2 q3
    refine hK.out _ _ SXu8.out ?_
    clear hK K
    try simp only [Act.put, List.setIfInBounds_toArray]
    try simp only [List.set_cons_zero, List.set_cons_succ]
    generalize u7.setCells u6.heap.size (0 + 0 * 3) (l.flatMap tcC) = u8 at *
    refine one_ready 9 (by kernel_rfl) rfl (by rfl) (fun K hK => ?_)
    obtain ⟨q1, q2, q3⟩ := amp_steps2 tcC_length (z := ((none, 0, newT) : TRow)) (l := l) (f := ((fa, fc, fk, col, fr) : TRow)) MRu8.out
    refine wp_append_roomK _ _ 39 39 rfl 47 i0 3 Try.underlying39 hi0 hz1 (u6.heap.size) 0 (0 + l.length) (l.length + 3) rfl _ rfl 2 (tcC (fa, fc, fk, col, fr) ++ tcC (fa, fc, fk, col, fr)) (Src.ofSlice _ Try.underlying39 ⟨wd.heap.size, 0, none⟩ 2 2 _ rfl (cells_of FRu8.out _ rfl) (fun v hv => by
      rcases List.mem_append.1 hv with h | h
      · exact tcC_one _ v h
      · exact tcC_one _ v h)) HR2.out q1 q2 ?_
    have BKE := Lib.hid (below_setCells (Nat.le_of_lt MGu7.out) (tcC (fa, fc, fk, col, fr) ++ tcC (fa, fc, fk, col, fr)) (0 + (0 + l.length) * 3) BKu8.out)
    have SXE := Lib.hid ((heap_setCells_other (u6.heap.size) w.heap.size (Nat.ne_of_lt MGu7.out) (tcC (fa, fc, fk, col, fr) ++ tcC (fa, fc, fk, col, fr)) (0 + (0 + l.length) * 3) u8).trans SXu8.out)
    have MRE := Lib.hid q3
    clear q1 q2 q3
    refine hK.out _ _ SXE.out ?_
    clear hK K
    try simp only [Act.put, List.setIfInBounds_toArray]
    try simp only [List.set_cons_zero, List.set_cons_succ]
    generalize u8.setCells (u6.heap.size) (0 + (0 + l.length) * 3) (tcC (fa, fc, fk, col, fr) ++ tcC (fa, fc, fk, col, fr)) = uE at *
    refine one_ready 10 (by kernel_rfl) rfl (by rfl) (fun K hK => ?_)
    go_simp
    refine hK.out _ _ SXE.out ?_
    clear hK K
    try simp only [Act.put, List.setIfInBounds_toArray]
    try simp only [List.set_cons_zero, List.set_cons_succ]
    refine wpAnyH_done (by kernel_rfl) ?_ _
    refine NoPanic.normal ?_
    go_wp2_with fail
    go_ret
    exact ⟨u6.heap.size, rfl, Nat.le_of_lt MGu7.out, MRE.out, BKE.out⟩
end Go.Proofs.Ytgoocmocdimnoaa
