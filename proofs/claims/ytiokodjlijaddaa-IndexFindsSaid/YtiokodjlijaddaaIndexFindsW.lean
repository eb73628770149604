/- IndexFinds: its walk. -/
import Derived.Test.YtiokodjlijaddaaIdxContains
import Derived.Test.YtiokodjlijaddaaRest
namespace Go.Proofs.Ytiokodjlijaddaa
open Go.RowKit Plain
attribute [-go_sem] run_eql_struct run_neq_struct run_eqGuard_agg run_equalIn_agg Op.eqFields Program.fieldsOf
def spP : Pl := ((1, 0, 0, 0, 0, 0, 0, 0), 1, 0, 0, 0)
theorem xOk_sp : xOk [spP] := ⟨by decide, fun p hp => by
  simp only [List.mem_singleton] at hp
  subst hp
  decide, fun i h => by simp at h⟩
theorem fnd_sp {p : Pl} {c : Nat} (h : Fnd [spP] spP.1 p c) : c = 0 ∧ p = spP := by
  rcases h with ⟨h1, _, h2, _⟩ | ⟨_, _, h3⟩
  · exact ⟨h1, by simpa using h2⟩
  · exact absurd rfl (h3 xOk_sp spP (by simp))
theorem fnd_get {l : List Pl} {r : Nat} (hr : r < l.length) (hx : xOk l) {p : Pl} {c : Nat} (h : Fnd l l[r].1 p c) : c = 0 ∧ p = l[r] := by
  rcases h with ⟨h1, _, h2, h3⟩ | ⟨_, _, h3⟩
  · refine ⟨h1, ?_⟩
    obtain ⟨j, hj, rfl⟩ := List.mem_iff_getElem.1 h2
    have e0 := (cmpN_zero _ _).2 h3
    rcases Nat.lt_trichotomy j r with e | e | e
    · have := xOk_lt hx j r hj hr e; omega
    · subst e; rfl
    · have := xOk_lt hx r j hr hj e
      have e1 := (cmpN_zero _ _).2 h3.symm
      omega
  · exact absurd rfl (h3 hx l[r] (List.getElem_mem hr))
theorem sat_sp (u : World) : SAt 12 plC (u.alloc (.cells (plC spP).toArray 33)) (some ⟨u.heap.size, 0, none⟩) [spP] := by
  intro i hi
  obtain rfl : i = 0 := by simpa using hi
  exact ⟨u.heap.size, 0, rfl, by simp, row_range (heap_alloc_new u _)⟩
theorem find_sp (u : World) : Calls Try.prog 13 #[.slice (some ⟨u.heap.size, 0, none⟩) 1 1, .agg #[.int .u8 1, .int .u8 0, .int .u8 0, .int .u8 0, .int .u8 0, .int .u8 0, .int .u8 0, .int .u8 0]] (u.alloc (.cells #[.int .u8 1, .int .u8 0, .int .u8 0, .int .u8 0, .int .u8 0, .int .u8 0, .int .u8 0, .int .u8 0, .int .i64 1, .int .i64 0, .int .i64 0, .int .i64 0] 33)) fun e w' => e = .returned (.tuple #[.agg #[.int .u8 1, .int .u8 0, .int .u8 0, .int .u8 0, .int .u8 0, .int .u8 0, .int .u8 0, .int .u8 0, .int .i64 1, .int .i64 0, .int .i64 0, .int .i64 0], .int .i64 0]) ∧ Below (u.alloc (.cells #[.int .u8 1, .int .u8 0, .int .u8 0, .int .u8 0, .int .u8 0, .int .u8 0, .int .u8 0, .int .u8 0, .int .i64 1, .int .i64 0, .int .i64 0, .int .i64 0] 33)).heap.size (u.alloc (.cells #[.int .u8 1, .int .u8 0, .int .u8 0, .int .u8 0, .int .u8 0, .int .u8 0, .int .u8 0, .int .u8 0, .int .i64 1, .int .i64 0, .int .i64 0, .int .i64 0] 33)) w' := by
  refine (find_any (some ⟨u.heap.size, 0, none⟩) 1 [spP] spP.1 _ (sat_sp u) (by decide) (by decide) (by decide)).mono ?_
  rintro e w' ⟨p, c, hf, rfl, hb⟩
  obtain ⟨rfl, rfl⟩ := fnd_sp hf
  exact ⟨rfl, hb⟩
theorem somePlace_lit (u : World) : Calls Try.prog 14 #[] u fun e w' => e = .returned (.agg #[.int .u8 1, .int .u8 0, .int .u8 0, .int .u8 0, .int .u8 0, .int .u8 0, .int .u8 0, .int .u8 0, .int .i64 1, .int .i64 0, .int .i64 0, .int .i64 0]) ∧ Below u.heap.size u w' := somePlace_any u
theorem range_below {w w' : World} {b o : Nat} {cs : List Value} (h : w.rangeAt b o cs) (hlt : b < w.heap.size) (hb : Below w.heap.size w w') : w'.rangeAt b o cs := fun j v hj => (hb.cell (p := ⟨b, o + j, none⟩) hlt).trans (h j v hj)
theorem wpList_genI {P : Program} {ops : Array Oper} {rest : List Oper} {o : Oper} {a : Act} {w : World} {x : Obj} {Q : Exit → Act → World → Prop} {d : Nat} (_ : o.dst = some d) (h : ∀ w', w.alloc x = w' → wpList P ops Q (o :: rest) a w') : wpList P ops Q (o :: rest) a (w.alloc x) := h _ rfl
set_option maxRecDepth 100000 in
theorem neqId_lit (p0 p1 p2 p3 p4 p5 p6 p7 t0 t1 t2 t3 t4 t5 t6 t7 : Nat) (h : idE (p0, p1, p2, p3, p4, p5, p6, p7) (t0, t1, t2, t3, t4, t5, t6, t7) = true) :
    (∀ wx, (binOp .neq 31 (.agg #[.int .u8 (p0 : Int), .int .u8 (p1 : Int), .int .u8 (p2 : Int), .int .u8 (p3 : Int), .int .u8 (p4 : Int), .int .u8 (p5 : Int), .int .u8 (p6 : Int), .int .u8 (p7 : Int)]) (.agg #[.int .u8 (t0 : Int), .int .u8 (t1 : Int), .int .u8 (t2 : Int), .int .u8 (t3 : Int), .int .u8 (t4 : Int), .int .u8 (t5 : Int), .int .u8 (t6 : Int), .int .u8 (t7 : Int)])).run Try.prog wx = .ok (.bool false) wx) ∧ (∀ (o : BinOp) (x y : Operand) (wx : World), (eqGuard o 31 x y (.agg #[.int .u8 (p0 : Int), .int .u8 (p1 : Int), .int .u8 (p2 : Int), .int .u8 (p3 : Int), .int .u8 (p4 : Int), .int .u8 (p5 : Int), .int .u8 (p6 : Int), .int .u8 (p7 : Int)]) (.agg #[.int .u8 (t0 : Int), .int .u8 (t1 : Int), .int .u8 (t2 : Int), .int .u8 (t3 : Int), .int .u8 (t4 : Int), .int .u8 (t5 : Int), .int .u8 (t6 : Int), .int .u8 (t7 : Int)])).run Try.prog wx = .ok () wx) := by
  have h := neqId _ _ true h
  simp only [idV, bV, Bool.not_true] at h
  exact h
theorem place12 (p : Pl) : plV p = .agg #[bV p.1.1, bV p.1.2.1, bV p.1.2.2.1, bV p.1.2.2.2.1, bV p.1.2.2.2.2.1, bV p.1.2.2.2.2.2.1, bV p.1.2.2.2.2.2.2.1, bV p.1.2.2.2.2.2.2.2, .int .i64 p.2.1, .int .i64 p.2.2.1, .int .i64 p.2.2.2.1, .int .i64 p.2.2.2.2] := rfl
set_option maxRecDepth 100000 in
theorem icz : (Try.prog.info? 33).map (·.size) = some 12 := by kernel_rfl
set_option maxRecDepth 100000 in
theorem eqPl_lit (q0 q1 q2 q3 q4 q5 q6 q7 : Nat) (qk qq qa qn : Int) :
    (∀ wx, (binOp .eql 33 (.agg #[.int .u8 (q0 : Int), .int .u8 (q1 : Int), .int .u8 (q2 : Int), .int .u8 (q3 : Int), .int .u8 (q4 : Int), .int .u8 (q5 : Int), .int .u8 (q6 : Int), .int .u8 (q7 : Int), .int .i64 qk, .int .i64 qq, .int .i64 qa, .int .i64 qn]) (.agg #[.int .u8 (q0 : Int), .int .u8 (q1 : Int), .int .u8 (q2 : Int), .int .u8 (q3 : Int), .int .u8 (q4 : Int), .int .u8 (q5 : Int), .int .u8 (q6 : Int), .int .u8 (q7 : Int), .int .i64 qk, .int .i64 qq, .int .i64 qa, .int .i64 qn])).run Try.prog wx = .ok (.bool true) wx) ∧ (∀ (o : BinOp) (x y : Operand) (wx : World), (eqGuard o 33 x y (.agg #[.int .u8 (q0 : Int), .int .u8 (q1 : Int), .int .u8 (q2 : Int), .int .u8 (q3 : Int), .int .u8 (q4 : Int), .int .u8 (q5 : Int), .int .u8 (q6 : Int), .int .u8 (q7 : Int), .int .i64 qk, .int .i64 qq, .int .i64 qa, .int .i64 qn]) (.agg #[.int .u8 (q0 : Int), .int .u8 (q1 : Int), .int .u8 (q2 : Int), .int .u8 (q3 : Int), .int .u8 (q4 : Int), .int .u8 (q5 : Int), .int .u8 (q6 : Int), .int .u8 (q7 : Int), .int .i64 qk, .int .i64 qq, .int .i64 qa, .int .i64 qn])).run Try.prog wx = .ok () wx) := by
  obtain ⟨h1, _, h2⟩ := eqPl ((q0, q1, q2, q3, q4, q5, q6, q7), qk, qq, qa, qn) _ true (plE_true.2 rfl)
  simp only [place12, bV] at h1 h2
  exact ⟨h1, h2⟩
set_option maxRecDepth 100000 in
set_option maxHeartbeats 4000000 in
theorem indexFinds_any (a : Option Addr) (cap : Nat) (l : List Pl) (t : ID8) (k : Int) (w : World) (h : SAt 12 plC w a l) (hl : l.length ≤ 9223372036854775807) (hlt : ∀ p ∈ l, ∀ c ∈ idL p.1, c < 256) (ht : ∀ c ∈ idL t, c < 256) :
    Calls Try.prog 4 #[.slice a l.length cap, idV t, .int .i64 k] w fun e w' => e = .returned (.bool true) ∧ Below w.heap.size w w' := by
  have hu := Try.underlying33
  have HL := Lib.hid h
  have HLT := Lib.hid hlt
  have HSP := Lib.hid somePlace_lit
  have HFS := Lib.hid find_sp
  have HFI := Lib.hid fun u (hu : SAt 12 plC u a l) => find_any a cap l t u hu (by omega) hlt ht
  have HFQ := Lib.hid fun (q : Pl) (hq : ∀ c ∈ idL q.1, c < 256) u (hu : SAt 12 plC u a l) => find_any a cap l q.1 u hu (by omega) hlt hq
  have HCK := Lib.hid fun u (hu : SAt 12 plC u a l) => xcheck_any a cap l u hu (by omega) hlt
  have HCO := Lib.hid fun (p : Pl) (hp : p ∈ l) u (hu : SAt 12 plC u a l) => containsPl_any a cap l p u hu (by omega) hp
  clear h hlt ht
  obtain ⟨t0, t1, t2, t3, t4, t5, t6, t7⟩ := t
  have HB0 := Lib.hid ((Below.refl w.heap.size w).alloc (Nat.le_refl _) (.cells #[.int .u8 (t0 : Int), .int .u8 (t1 : Int), .int .u8 (t2 : Int), .int .u8 (t3 : Int), .int .u8 (t4 : Int), .int .u8 (t5 : Int), .int .u8 (t6 : Int), .int .u8 (t7 : Int)] 31))
  have HT0 := Lib.hid (heap_alloc_new w (.cells #[.int .u8 (t0 : Int), .int .u8 (t1 : Int), .int .u8 (t2 : Int), .int .u8 (t3 : Int), .int .u8 (t4 : Int), .int .u8 (t5 : Int), .int .u8 (t6 : Int), .int .u8 (t7 : Int)] 31))
  unfold idV at HFI ⊢
  simp only [bV] at HFI ⊢
  go_enter Try.func4, Try.ntmps4
  go_wp2_with fail
  generalize w.alloc (.cells #[.int .u8 (t0 : Int), .int .u8 (t1 : Int), .int .u8 (t2 : Int), .int .u8 (t3 : Int), .int .u8 (t4 : Int), .int .u8 (t5 : Int), .int .u8 (t6 : Int), .int .u8 (t7 : Int)] 31) = wa at *
  refine (HSP.out _).mono ?_
  rintro e w1 ⟨rfl, hb1⟩
  have B1 := Lib.hid (Below.step HB0.out hb1)
  have T1 := Lib.hid ((hb1.block w.heap.size (lt_of_block HT0.out)).trans HT0.out)
  clear hb1 HB0 HT0
  go_wp2_with fail
  refine (HFS.out w1).mono ?_
  rintro e w2 ⟨rfl, hb2⟩
  have B2 := Lib.hid (Below.step (B1.out.alloc B1.out.size (.cells #[.int .u8 1, .int .u8 0, .int .u8 0, .int .u8 0, .int .u8 0, .int .u8 0, .int .u8 0, .int .u8 0, .int .i64 1, .int .i64 0, .int .i64 0, .int .i64 0] 33)) hb2)
  have T2 := Lib.hid ((hb2.block w.heap.size (by simp; have := lt_of_block T1.out; omega)).trans ((Below.heap_alloc w1 (.cells #[.int .u8 1, .int .u8 0, .int .u8 0, .int .u8 0, .int .u8 0, .int .u8 0, .int .u8 0, .int .u8 0, .int .i64 1, .int .i64 0, .int .i64 0, .int .i64 0] 33) w.heap.size (lt_of_block T1.out)).trans T1.out))
  have B3 := Lib.hid (B2.out.alloc B2.out.size (.cells #[.int .u8 1, .int .u8 0, .int .u8 0, .int .u8 0, .int .u8 0, .int .u8 0, .int .u8 0, .int .u8 0, .int .i64 1, .int .i64 0, .int .i64 0, .int .i64 0] 33))
  have T3 := Lib.hid ((Below.heap_alloc w2 (.cells #[.int .u8 1, .int .u8 0, .int .u8 0, .int .u8 0, .int .u8 0, .int .u8 0, .int .u8 0, .int .u8 0, .int .i64 1, .int .i64 0, .int .i64 0, .int .i64 0] 33) w.heap.size (lt_of_block T2.out)).trans T2.out)
  have R3 : Hid ((w2.alloc (.cells #[.int .u8 1, .int .u8 0, .int .u8 0, .int .u8 0, .int .u8 0, .int .u8 0, .int .u8 0, .int .u8 0, .int .i64 1, .int .i64 0, .int .i64 0, .int .i64 0] 33)).heap[w2.heap.size]? = some (.cells (plC spP).toArray 33 (0, 0))) := heap_alloc_new w2 _
  clear hb2 HFS B1 T1 B2 T2
  go_wp2_with fail
  generalize w2.alloc (.cells #[.int .u8 1, .int .u8 0, .int .u8 0, .int .u8 0, .int .u8 0, .int .u8 0, .int .u8 0, .int .u8 0, .int .i64 1, .int .i64 0, .int .i64 0, .int .i64 0] 33) = w3 at *
  generalize w2.heap.size = n7 at *
  have ic : (Try.prog.info? 33).map (·.size) = some (plC spP).length := by kernel_rfl
  obtain ⟨_, SE2, SE3⟩ := eqPl spP spP true (plE_true.2 rfl)
  refine wp_region_noPanic ?_
  refine wp_region_held_drew (S := fun w' => w'.rangeAt n7 0 (plC spP)) (by kernel_rfl) (row_range (show w3.drew.heap[n7]? = _ from R3.out)) (fun hS0 => ?_)
  have HS0 := Lib.hid hS0
  have HB3 := Lib.hid B3.out.drew
  have HT3 : Hid (w3.drew.heap[w.heap.size]? = some (.cells #[.int .u8 (t0 : Int), .int .u8 (t1 : Int), .int .u8 (t2 : Int), .int .u8 (t3 : Int), .int .u8 (t4 : Int), .int .u8 (t5 : Int), .int .u8 (t6 : Int), .int .u8 (t7 : Int)] 31 (0, 0))) := T3.out
  have hn7 : n7 < w3.drew.heap.size := lt_of_block (show w3.drew.heap[n7]? = _ from R3.out)
  clear hS0 B3 T3 R3
  generalize w3.drew = v0 at *
  refine take_val 0 (.int .i64 0) rfl (by kernel_rfl) (by kernel_rfl) (by kernel_rfl) (fun _ _ _ _ h => h) (by rfl) rfl (fun w _ => by go_simp) HS0.out ?_
  try simp only [List.set_cons_zero, List.set_cons_succ]
  refine take_val 1 (.bool false) rfl (by kernel_rfl) (by kernel_rfl) (by kernel_rfl) (fun _ _ _ _ h => h) (by rfl) rfl (fun w _ => by go_simp) HS0.out ?_
  try simp only [List.set_cons_zero, List.set_cons_succ]
  refine take_val 2 (.bool false) rfl (by kernel_rfl) (by kernel_rfl) (by kernel_rfl) (fun _ _ _ _ h => h) (by rfl) rfl (fun w _ => by go_simp) HS0.out ?_
  try simp only [List.set_cons_zero, List.set_cons_succ]
  refine take_row 3 rfl (by kernel_rfl) (by kernel_rfl) (by kernel_rfl) (fun _ _ _ _ h => h) (by rfl) rfl rfl rfl (fun _ hS => hS) hu rfl ic HS0.out ?_
  try simp only [List.set_cons_zero, List.set_cons_succ]
  refine one_ready 4 (by kernel_rfl) rfl (by rfl) (fun K hK => ?_)
  go_simp
  refine (HSP.out _).mono ?_
  rintro e v1 ⟨rfl, hb⟩
  go_wp2_with fail
  have HS1 : Hid (v1.rangeAt n7 0 (plC spP)) := range_below HS0.out hn7 hb
  refine hK.out _ _ HS1.out ?_
  clear hK K
  try simp only [Act.put, List.setIfInBounds_toArray, List.set_cons_zero, List.set_cons_succ]
  have HB4 := Lib.hid (Below.step HB3.out hb)
  have HT4 := Lib.hid ((hb.block w.heap.size (lt_of_block HT3.out)).trans HT3.out)
  clear hb HB3 HT3 HS0 hn7
  refine take_val 5 (.bool false) rfl (by kernel_rfl) (by kernel_rfl) (by kernel_rfl) (fun _ _ _ _ h => h) (by rfl) rfl (fun w _ => val_bin rfl rfl rfl (SE2 w) (SE3 _ _ _ w)) HS1.out ?_
  try simp only [List.set_cons_zero, List.set_cons_succ]
  refine take_val 6 (.bool false) rfl (by kernel_rfl) (by kernel_rfl) (by kernel_rfl) (fun _ _ _ _ h => h) (by rfl) rfl (fun w _ => by go_simp) HS1.out ?_
  try simp only [List.set_cons_zero, List.set_cons_succ]
  refine wpAnyH_done (by kernel_rfl) ?_ _
  refine NoPanic.normal ?_
  clear HS1 SE2 SE3 ic HSP
  have d0 := cell_of_row v1 w.heap.size 0 _ _ _ HT4.out
  have d1 := cell_of_row v1 w.heap.size 1 _ _ _ HT4.out
  have d2 := cell_of_row v1 w.heap.size 2 _ _ _ HT4.out
  have d3 := cell_of_row v1 w.heap.size 3 _ _ _ HT4.out
  have d4 := cell_of_row v1 w.heap.size 4 _ _ _ HT4.out
  have d5 := cell_of_row v1 w.heap.size 5 _ _ _ HT4.out
  have d6 := cell_of_row v1 w.heap.size 6 _ _ _ HT4.out
  have d7 := cell_of_row v1 w.heap.size 7 _ _ _ HT4.out
  simp only [List.getElem?_toArray, List.getElem?_cons_zero, List.getElem?_cons_succ] at d0 d1 d2 d3 d4 d5 d6 d7
  go_wp2_with fail
  refine (HFI.out v1 (HL.out.below HB4.out)).mono ?_
  rintro e v2 ⟨p, c, hf, rfl, hb⟩
  have HB5 := Lib.hid (Below.step HB4.out hb)
  have HT5 := Lib.hid ((hb.block w.heap.size (lt_of_block HT4.out)).trans HT4.out)
  have HF := Lib.hid hf
  clear hb hf HFI HB4 HT4 d0 d1 d2 d3 d4 d5 d6 d7
  have hu1 : v2.heap.size = v2.heap.size := rfl
  obtain ⟨⟨p0, p1, p2, p3, p4, p5, p6, p7⟩, pk, pq, pa, pn⟩ := p
  have HR9 : Hid ((v2.alloc (.cells #[.int .u8 (p0 : Int), .int .u8 (p1 : Int), .int .u8 (p2 : Int), .int .u8 (p3 : Int), .int .u8 (p4 : Int), .int .u8 (p5 : Int), .int .u8 (p6 : Int), .int .u8 (p7 : Int), .int .i64 pk, .int .i64 pq, .int .i64 pa, .int .i64 pn] 33)).heap[v2.heap.size]? = some (.cells #[.int .u8 (p0 : Int), .int .u8 (p1 : Int), .int .u8 (p2 : Int), .int .u8 (p3 : Int), .int .u8 (p4 : Int), .int .u8 (p5 : Int), .int .u8 (p6 : Int), .int .u8 (p7 : Int), .int .i64 pk, .int .i64 pq, .int .i64 pa, .int .i64 pn] 33 (0, 0))) := heap_alloc_new v2 _
  have HT6 : Hid ((v2.alloc (.cells #[.int .u8 (p0 : Int), .int .u8 (p1 : Int), .int .u8 (p2 : Int), .int .u8 (p3 : Int), .int .u8 (p4 : Int), .int .u8 (p5 : Int), .int .u8 (p6 : Int), .int .u8 (p7 : Int), .int .i64 pk, .int .i64 pq, .int .i64 pa, .int .i64 pn] 33)).heap[w.heap.size]? = some (.cells #[.int .u8 (t0 : Int), .int .u8 (t1 : Int), .int .u8 (t2 : Int), .int .u8 (t3 : Int), .int .u8 (t4 : Int), .int .u8 (t5 : Int), .int .u8 (t6 : Int), .int .u8 (t7 : Int)] 31 (0, 0))) := (Below.heap_alloc v2 _ w.heap.size (lt_of_block HT5.out)).trans HT5.out
  have HB6 := Lib.hid (HB5.out.alloc HB5.out.size (.cells #[.int .u8 (p0 : Int), .int .u8 (p1 : Int), .int .u8 (p2 : Int), .int .u8 (p3 : Int), .int .u8 (p4 : Int), .int .u8 (p5 : Int), .int .u8 (p6 : Int), .int .u8 (p7 : Int), .int .i64 pk, .int .i64 pq, .int .i64 pa, .int .i64 pn] 33))
  have hn9 : w.heap.size ≤ v2.heap.size := HB5.out.size
  have HRest : Hid (l.length ≠ 0 → l.length ≤ 400 → ∀ u, Calls Try.prog 17 #[.int .i64 k, .int .i64 (l.length : Int)] u fun e w' => (∃ r : Nat, (r : Int) < (l.length : Int) ∧ e = .returned (.int .i64 (r : Int))) ∧ w' = u) := fun hne h400 u => rest_any k (l.length : Int) u (by omega) (by omega)
  clear HT5 HB5 hu1
  rw [place12]
  simp only [bV]
  by_cases hc0 : c = 0
  · have f0 : ((c : Int) == 0) = true := by rw [beq_iff_eq]; omega
    have f1 : ((c : Int) != 0) = false := by simp; omega
    have HG : Hid (((p0, p1, p2, p3, p4, p5, p6, p7), pk, pq, pa, pn) ∈ l ∧ idE (p0, p1, p2, p3, p4, p5, p6, p7) (t0, t1, t2, t3, t4, t5, t6, t7) = true) := by
      rcases HF.out with ⟨_, _, h2, h3⟩ | ⟨h1, _⟩
      · exact ⟨h2, idE_true.2 (idL_inj.1 h3)⟩
      · exact absurd hc0 h1
    obtain ⟨N1, N2⟩ := neqId_lit _ _ _ _ _ _ _ _ _ _ _ _ _ _ _ _ HG.out.2
    have hc1 := HCO.out _ HG.out.1
    rw [place12] at hc1
    simp only [bV] at hc1
    have HC1 := Lib.hid hc1
    clear hc1
    clear HF HCO HG hc0
    have d0 := cell_of_row (v2.alloc (.cells #[.int .u8 (p0 : Int), .int .u8 (p1 : Int), .int .u8 (p2 : Int), .int .u8 (p3 : Int), .int .u8 (p4 : Int), .int .u8 (p5 : Int), .int .u8 (p6 : Int), .int .u8 (p7 : Int), .int .i64 pk, .int .i64 pq, .int .i64 pa, .int .i64 pn] 33)) w.heap.size 0 _ _ _ HT6.out
    have d1 := cell_of_row (v2.alloc (.cells #[.int .u8 (p0 : Int), .int .u8 (p1 : Int), .int .u8 (p2 : Int), .int .u8 (p3 : Int), .int .u8 (p4 : Int), .int .u8 (p5 : Int), .int .u8 (p6 : Int), .int .u8 (p7 : Int), .int .i64 pk, .int .i64 pq, .int .i64 pa, .int .i64 pn] 33)) w.heap.size 1 _ _ _ HT6.out
    have d2 := cell_of_row (v2.alloc (.cells #[.int .u8 (p0 : Int), .int .u8 (p1 : Int), .int .u8 (p2 : Int), .int .u8 (p3 : Int), .int .u8 (p4 : Int), .int .u8 (p5 : Int), .int .u8 (p6 : Int), .int .u8 (p7 : Int), .int .i64 pk, .int .i64 pq, .int .i64 pa, .int .i64 pn] 33)) w.heap.size 2 _ _ _ HT6.out
    have d3 := cell_of_row (v2.alloc (.cells #[.int .u8 (p0 : Int), .int .u8 (p1 : Int), .int .u8 (p2 : Int), .int .u8 (p3 : Int), .int .u8 (p4 : Int), .int .u8 (p5 : Int), .int .u8 (p6 : Int), .int .u8 (p7 : Int), .int .i64 pk, .int .i64 pq, .int .i64 pa, .int .i64 pn] 33)) w.heap.size 3 _ _ _ HT6.out
    have d4 := cell_of_row (v2.alloc (.cells #[.int .u8 (p0 : Int), .int .u8 (p1 : Int), .int .u8 (p2 : Int), .int .u8 (p3 : Int), .int .u8 (p4 : Int), .int .u8 (p5 : Int), .int .u8 (p6 : Int), .int .u8 (p7 : Int), .int .i64 pk, .int .i64 pq, .int .i64 pa, .int .i64 pn] 33)) w.heap.size 4 _ _ _ HT6.out
    have d5 := cell_of_row (v2.alloc (.cells #[.int .u8 (p0 : Int), .int .u8 (p1 : Int), .int .u8 (p2 : Int), .int .u8 (p3 : Int), .int .u8 (p4 : Int), .int .u8 (p5 : Int), .int .u8 (p6 : Int), .int .u8 (p7 : Int), .int .i64 pk, .int .i64 pq, .int .i64 pa, .int .i64 pn] 33)) w.heap.size 5 _ _ _ HT6.out
    have d6 := cell_of_row (v2.alloc (.cells #[.int .u8 (p0 : Int), .int .u8 (p1 : Int), .int .u8 (p2 : Int), .int .u8 (p3 : Int), .int .u8 (p4 : Int), .int .u8 (p5 : Int), .int .u8 (p6 : Int), .int .u8 (p7 : Int), .int .i64 pk, .int .i64 pq, .int .i64 pa, .int .i64 pn] 33)) w.heap.size 6 _ _ _ HT6.out
    have d7 := cell_of_row (v2.alloc (.cells #[.int .u8 (p0 : Int), .int .u8 (p1 : Int), .int .u8 (p2 : Int), .int .u8 (p3 : Int), .int .u8 (p4 : Int), .int .u8 (p5 : Int), .int .u8 (p6 : Int), .int .u8 (p7 : Int), .int .i64 pk, .int .i64 pq, .int .i64 pa, .int .i64 pn] 33)) w.heap.size 7 _ _ _ HT6.out
    simp only [List.getElem?_toArray, List.getElem?_cons_zero, List.getElem?_cons_succ] at d0 d1 d2 d3 d4 d5 d6 d7
    go_wp2_with fail
    refine (HC1.out _ (HL.out.below HB6.out)).mono ?_
    rintro e v4 ⟨rfl, hb⟩
    have HB7 := Lib.hid (Below.step HB6.out hb)
    have HR10 := Lib.hid ((hb.block v2.heap.size (lt_of_block HR9.out)).trans HR9.out)
    clear hb HC1 HB6 HR9 HT6 N1 N2 d0 d1 d2 d3 d4 d5 d6 d7
    generalize v2.heap.size = n9 at *
    go_wp2_with fail
    refine (HCK.out v4 (HL.out.below HB7.out)).mono ?_
    rintro e v5 ⟨c2, rfl, hc2, hb⟩
    have HB8 := Lib.hid (Below.step HB7.out hb)
    have HR11 := Lib.hid ((hb.block n9 (lt_of_block HR10.out)).trans HR10.out)
    have HCX := Lib.hid hc2
    clear hb hc2 HB7 HR10 HCK
    by_cases hz2 : c2 = 0
    · have f2 : ((c2 : Int) != 0) = false := by simp; omega
      have HX := Lib.hid (HCX.out.1 hz2)
      clear HCX hz2
      by_cases hl0 : l.length = 0
      · have f3 : ((l.length : Int) == 0) = true := by rw [beq_iff_eq]; omega
        clear hl0
        go_wp2_with fail
        go_ret
        exact ⟨rfl, HB8.out⟩
      · have f3 : ((l.length : Int) == 0) = false := by rw [beq_eq_false_iff_ne]; omega
        have HRS := Lib.hid (HRest.out hl0 HX.out.1)
        clear HRest hl0
        go_wp2_with fail
        refine (HRS.out _).mono ?_
        rintro e v6 ⟨⟨r, hr, rfl⟩, rfl⟩
        have hr2 : r < l.length := by omega
        obtain ⟨g, off, rfl, hg, e0, e1, e2, e3, e4, e5, e6, e7, e8, e9, e10, e11⟩ := (HL.out.below HB8.out).place r hr2 _ rfl
        have hqlt := HLT.out l[r] (List.getElem_mem hr2)
        have hf3 : ∀ u, SAt 12 plC u (some ⟨g, off, none⟩) l → Calls Try.prog 13 #[.slice (some ⟨g, off, none⟩) l.length cap, idV l[r].1] u fun e w' => e = .returned (.tuple #[plV l[r], .int .i64 0]) ∧ Below u.heap.size u w' := fun u hu => (HFQ.out l[r] hqlt u hu).mono (by
          rintro e w' ⟨p', c', hf', rfl, hb'⟩
          obtain ⟨rfl, rfl⟩ := fnd_get hr2 HX.out hf'
          exact ⟨rfl, hb'⟩)
        have r0 : (0 : Int) ≤ (r : Int) := Int.natCast_nonneg _
        have r1 : (r : Int) < (l.length : Int) := by omega
        clear HRS HFQ HLT HX hqlt
        generalize l[r] = q at *
        obtain ⟨⟨q0, q1, q2, q3, q4, q5, q6, q7⟩, qk, qq, qa, qn⟩ := q
        simp only [bV] at e0 e1 e2 e3 e4 e5 e6 e7
        simp only [place12, idV, bV] at hf3
        have HF3 := Lib.hid hf3
        obtain ⟨Q1, Q2⟩ := eqPl_lit q0 q1 q2 q3 q4 q5 q6 q7 qk qq qa qn
        have HON : Hid ((#[.int .u8 (q0 : Int), .int .u8 (q1 : Int), .int .u8 (q2 : Int), .int .u8 (q3 : Int), .int .u8 (q4 : Int), .int .u8 (q5 : Int), .int .u8 (q6 : Int), .int .u8 (q7 : Int), .int .i64 qk, .int .i64 qq, .int .i64 qa, .int .i64 qn] : Array Value).all (·.oneCell') = true) := plC_one ((q0, q1, q2, q3, q4, q5, q6, q7), qk, qq, qa, qn)
        have ICQ : Hid ((Try.prog.info? 33).map (·.size) = some (#[.int .u8 (q0 : Int), .int .u8 (q1 : Int), .int .u8 (q2 : Int), .int .u8 (q3 : Int), .int .u8 (q4 : Int), .int .u8 (q5 : Int), .int .u8 (q6 : Int), .int .u8 (q7 : Int), .int .i64 qk, .int .i64 qq, .int .i64 qa, .int .i64 qn] : Array Value).size) := icz
        have HB9 := Lib.hid (HB8.out.alloc HB8.out.size (.cells #[.int .u8 (q0 : Int), .int .u8 (q1 : Int), .int .u8 (q2 : Int), .int .u8 (q3 : Int), .int .u8 (q4 : Int), .int .u8 (q5 : Int), .int .u8 (q6 : Int), .int .u8 (q7 : Int), .int .i64 qk, .int .i64 qq, .int .i64 qa, .int .i64 qn] 33))
        have hn9l := lt_of_block HR11.out
        have hr' : (r : Int) < (l.length : Int) := r1
        clear hf3 hr
        go_wp2_with fail
        refine (HF3.out _ (HL.out.below HB9.out)).mono ?_
        rintro e v7 ⟨rfl, hb⟩
        have HB10 := Lib.hid (Below.step HB9.out hb)
        have R9 := (hb.block n9 (by simp; omega)).trans ((Below.heap_alloc v6 (.cells #[.int .u8 (q0 : Int), .int .u8 (q1 : Int), .int .u8 (q2 : Int), .int .u8 (q3 : Int), .int .u8 (q4 : Int), .int .u8 (q5 : Int), .int .u8 (q6 : Int), .int .u8 (q7 : Int), .int .i64 qk, .int .i64 qq, .int .i64 qa, .int .i64 qn] 33) n9 hn9l).trans HR11.out)
        have R11 := (hb.block v6.heap.size (by simp)).trans (heap_alloc_new v6 (.cells #[.int .u8 (q0 : Int), .int .u8 (q1 : Int), .int .u8 (q2 : Int), .int .u8 (q3 : Int), .int .u8 (q4 : Int), .int .u8 (q5 : Int), .int .u8 (q6 : Int), .int .u8 (q7 : Int), .int .i64 qk, .int .i64 qq, .int .i64 qa, .int .i64 qn] 33))
        have hne : v6.heap.size ≠ n9 := by omega
        have hth := row_thereI R9
        have HTH : Hid (v7.there n9 0 (#[.int .u8 (q0 : Int), .int .u8 (q1 : Int), .int .u8 (q2 : Int), .int .u8 (q3 : Int), .int .u8 (q4 : Int), .int .u8 (q5 : Int), .int .u8 (q6 : Int), .int .u8 (q7 : Int), .int .i64 qk, .int .i64 qq, .int .i64 qa, .int .i64 qn] : Array Value).size) := hth
        clear hth
        have R9z : Hid ((v7.setCells n9 0 (#[.int .u8 (q0 : Int), .int .u8 (q1 : Int), .int .u8 (q2 : Int), .int .u8 (q3 : Int), .int .u8 (q4 : Int), .int .u8 (q5 : Int), .int .u8 (q6 : Int), .int .u8 (q7 : Int), .int .i64 qk, .int .i64 qq, .int .i64 qa, .int .i64 qn] : Array Value).toList).heap[n9]? = some (.cells #[.int .u8 (q0 : Int), .int .u8 (q1 : Int), .int .u8 (q2 : Int), .int .u8 (q3 : Int), .int .u8 (q4 : Int), .int .u8 (q5 : Int), .int .u8 (q6 : Int), .int .u8 (q7 : Int), .int .i64 qk, .int .i64 qq, .int .i64 qa, .int .i64 qn] 33 (0, 0))) := setCells_full R9 _ rfl
        have R11z : Hid ((v7.setCells n9 0 (#[.int .u8 (q0 : Int), .int .u8 (q1 : Int), .int .u8 (q2 : Int), .int .u8 (q3 : Int), .int .u8 (q4 : Int), .int .u8 (q5 : Int), .int .u8 (q6 : Int), .int .u8 (q7 : Int), .int .i64 qk, .int .i64 qq, .int .i64 qa, .int .i64 qn] : Array Value).toList).heap[v6.heap.size]? = some (.cells #[.int .u8 (q0 : Int), .int .u8 (q1 : Int), .int .u8 (q2 : Int), .int .u8 (q3 : Int), .int .u8 (q4 : Int), .int .u8 (q5 : Int), .int .u8 (q6 : Int), .int .u8 (q7 : Int), .int .i64 qk, .int .i64 qq, .int .i64 qa, .int .i64 qn] 33 (0, 0))) := (heap_setCells_other _ _ hne _ _ _).trans R11
        have BZ : Hid (Below w.heap.size w (v7.setCells n9 0 (#[.int .u8 (q0 : Int), .int .u8 (q1 : Int), .int .u8 (q2 : Int), .int .u8 (q3 : Int), .int .u8 (q4 : Int), .int .u8 (q5 : Int), .int .u8 (q6 : Int), .int .u8 (q7 : Int), .int .i64 qk, .int .i64 qq, .int .i64 qa, .int .i64 qn] : Array Value).toList)) := below_setCells hn9 _ _ HB10.out
        clear hb HB9 HB10 R9 R11 hne hn9l HF3 HR11 HB8 e0 e1 e2 e3 e4 e5 e6 e7 e8 e9 e10 e11
        generalize v6.heap.size = n11 at *
        go_wp2_with (with_reducible refine wpList_store_mid rfl 33 (.tmp 9) (.tmp 75) rfl n9 0 #[.int .u8 (q0 : Int), .int .u8 (q1 : Int), .int .u8 (q2 : Int), .int .u8 (q3 : Int), .int .u8 (q4 : Int), .int .u8 (q5 : Int), .int .u8 (q6 : Int), .int .u8 (q7 : Int), .int .i64 qk, .int .i64 qq, .int .i64 qa, .int .i64 qn] rfl rfl HTH.out ICQ.out HON.out ?_; generalize v7.setCells n9 0 (#[.int .u8 (q0 : Int), .int .u8 (q1 : Int), .int .u8 (q2 : Int), .int .u8 (q3 : Int), .int .u8 (q4 : Int), .int .u8 (q5 : Int), .int .u8 (q6 : Int), .int .u8 (q7 : Int), .int .i64 qk, .int .i64 qq, .int .i64 qa, .int .i64 qn] : Array Value).toList = v8 at *; (have c0 := cell_of_row v8 n9 0 _ _ _ R9z.out; have c1 := cell_of_row v8 n9 1 _ _ _ R9z.out; have c2 := cell_of_row v8 n9 2 _ _ _ R9z.out; have c3 := cell_of_row v8 n9 3 _ _ _ R9z.out; have c4 := cell_of_row v8 n9 4 _ _ _ R9z.out; have c5 := cell_of_row v8 n9 5 _ _ _ R9z.out; have c6 := cell_of_row v8 n9 6 _ _ _ R9z.out; have c7 := cell_of_row v8 n9 7 _ _ _ R9z.out; have c8 := cell_of_row v8 n9 8 _ _ _ R9z.out; have c9 := cell_of_row v8 n9 9 _ _ _ R9z.out; have c10 := cell_of_row v8 n9 10 _ _ _ R9z.out; have c11 := cell_of_row v8 n9 11 _ _ _ R9z.out; simp only [List.getElem?_toArray, List.getElem?_cons_zero, List.getElem?_cons_succ] at c0 c1 c2 c3 c4 c5 c6 c7 c8 c9 c10 c11); (have d0 := cell_of_row v8 n11 0 _ _ _ R11z.out; have d1 := cell_of_row v8 n11 1 _ _ _ R11z.out; have d2 := cell_of_row v8 n11 2 _ _ _ R11z.out; have d3 := cell_of_row v8 n11 3 _ _ _ R11z.out; have d4 := cell_of_row v8 n11 4 _ _ _ R11z.out; have d5 := cell_of_row v8 n11 5 _ _ _ R11z.out; have d6 := cell_of_row v8 n11 6 _ _ _ R11z.out; have d7 := cell_of_row v8 n11 7 _ _ _ R11z.out; have d8 := cell_of_row v8 n11 8 _ _ _ R11z.out; have d9 := cell_of_row v8 n11 9 _ _ _ R11z.out; have d10 := cell_of_row v8 n11 10 _ _ _ R11z.out; have d11 := cell_of_row v8 n11 11 _ _ _ R11z.out; simp only [List.getElem?_toArray, List.getElem?_cons_zero, List.getElem?_cons_succ] at d0 d1 d2 d3 d4 d5 d6 d7 d8 d9 d10 d11))
        go_ret
        exact ⟨rfl, BZ.out⟩
    · have f2 : ((c2 : Int) != 0) = true := by simpa using hz2
      clear HCX hz2
      go_wp2_with fail
      go_ret
      exact ⟨rfl, HB8.out⟩
  · have hz : ((p0, p1, p2, p3, p4, p5, p6, p7), pk, pq, pa, pn) = zeroPl := by
      rcases HF.out with ⟨h1, _⟩ | ⟨_, h2, _⟩
      · exact absurd h1 hc0
      · exact h2
    simp only [zeroPl, Prod.mk.injEq] at hz
    obtain ⟨⟨rfl, rfl, rfl, rfl, rfl, rfl, rfl, rfl⟩, rfl, rfl, rfl, rfl⟩ := hz
    have f0 : ((c : Int) == 0) = false := by rw [beq_eq_false_iff_ne]; omega
    have f1 : ((c : Int) != 0) = true := by simpa using hc0
    obtain ⟨_, Z1, Z2⟩ := eqPl zeroPl zeroPl true (plE_true.2 rfl)
    have Z1 : ∀ wx, (binOp .neq 33 (.agg #[.int .u8 0, .int .u8 0, .int .u8 0, .int .u8 0, .int .u8 0, .int .u8 0, .int .u8 0, .int .u8 0, .int .i64 0, .int .i64 0, .int .i64 0, .int .i64 0]) (.agg #[.int .u8 0, .int .u8 0, .int .u8 0, .int .u8 0, .int .u8 0, .int .u8 0, .int .u8 0, .int .u8 0, .int .i64 0, .int .i64 0, .int .i64 0, .int .i64 0])).run Try.prog wx = .ok (.bool false) wx := Z1
    have Z2 : ∀ (o : BinOp) (x y : Operand) (wx : World), (eqGuard o 33 x y (.agg #[.int .u8 0, .int .u8 0, .int .u8 0, .int .u8 0, .int .u8 0, .int .u8 0, .int .u8 0, .int .u8 0, .int .i64 0, .int .i64 0, .int .i64 0, .int .i64 0]) (.agg #[.int .u8 0, .int .u8 0, .int .u8 0, .int .u8 0, .int .u8 0, .int .u8 0, .int .u8 0, .int .u8 0, .int .i64 0, .int .i64 0, .int .i64 0, .int .i64 0])).run Try.prog wx = .ok () wx := Z2
    have HR9 : Hid ((v2.alloc (.cells #[.int .u8 0, .int .u8 0, .int .u8 0, .int .u8 0, .int .u8 0, .int .u8 0, .int .u8 0, .int .u8 0, .int .i64 0, .int .i64 0, .int .i64 0, .int .i64 0] 33)).heap[v2.heap.size]? = some (.cells #[.int .u8 0, .int .u8 0, .int .u8 0, .int .u8 0, .int .u8 0, .int .u8 0, .int .u8 0, .int .u8 0, .int .i64 0, .int .i64 0, .int .i64 0, .int .i64 0] 33 (0, 0))) := HR9
    have HB6 : Hid (Below w.heap.size w (v2.alloc (.cells #[.int .u8 0, .int .u8 0, .int .u8 0, .int .u8 0, .int .u8 0, .int .u8 0, .int .u8 0, .int .u8 0, .int .i64 0, .int .i64 0, .int .i64 0, .int .i64 0] 33))) := HB6
    clear HF HCO hc0 HT6
    go_wp2_with fail
    clear Z1 Z2
    generalize hv4 : v2.alloc (.cells #[.int .u8 0, .int .u8 0, .int .u8 0, .int .u8 0, .int .u8 0, .int .u8 0, .int .u8 0, .int .u8 0, .int .i64 0, .int .i64 0, .int .i64 0, .int .i64 0] 33) = v4 at *
    generalize v2.heap.size = n9 at *
    have HB7 := HB6
    have HR10 := HR9
    clear HB6 HR9 hv4
    refine (HCK.out v4 (HL.out.below HB7.out)).mono ?_
    rintro e v5 ⟨c2, rfl, hc2, hb⟩
    have HB8 := Lib.hid (Below.step HB7.out hb)
    have HR11 := Lib.hid ((hb.block n9 (lt_of_block HR10.out)).trans HR10.out)
    have HCX := Lib.hid hc2
    clear hb hc2 HB7 HR10 HCK
    by_cases hz2 : c2 = 0
    · have f2 : ((c2 : Int) != 0) = false := by simp; omega
      have HX := Lib.hid (HCX.out.1 hz2)
      clear HCX hz2
      by_cases hl0 : l.length = 0
      · have f3 : ((l.length : Int) == 0) = true := by rw [beq_iff_eq]; omega
        clear hl0
        go_wp2_with fail
        go_ret
        exact ⟨rfl, HB8.out⟩
      · have f3 : ((l.length : Int) == 0) = false := by rw [beq_eq_false_iff_ne]; omega
        have HRS := Lib.hid (HRest.out hl0 HX.out.1)
        clear HRest hl0
        go_wp2_with fail
        refine (HRS.out _).mono ?_
        rintro e v6 ⟨⟨r, hr, rfl⟩, rfl⟩
        have hr2 : r < l.length := by omega
        obtain ⟨g, off, rfl, hg, e0, e1, e2, e3, e4, e5, e6, e7, e8, e9, e10, e11⟩ := (HL.out.below HB8.out).place r hr2 _ rfl
        have hqlt := HLT.out l[r] (List.getElem_mem hr2)
        have hf3 : ∀ u, SAt 12 plC u (some ⟨g, off, none⟩) l → Calls Try.prog 13 #[.slice (some ⟨g, off, none⟩) l.length cap, idV l[r].1] u fun e w' => e = .returned (.tuple #[plV l[r], .int .i64 0]) ∧ Below u.heap.size u w' := fun u hu => (HFQ.out l[r] hqlt u hu).mono (by
          rintro e w' ⟨p', c', hf', rfl, hb'⟩
          obtain ⟨rfl, rfl⟩ := fnd_get hr2 HX.out hf'
          exact ⟨rfl, hb'⟩)
        have r0 : (0 : Int) ≤ (r : Int) := Int.natCast_nonneg _
        have r1 : (r : Int) < (l.length : Int) := by omega
        clear HRS HFQ HLT HX hqlt
        generalize l[r] = q at *
        obtain ⟨⟨q0, q1, q2, q3, q4, q5, q6, q7⟩, qk, qq, qa, qn⟩ := q
        simp only [bV] at e0 e1 e2 e3 e4 e5 e6 e7
        simp only [place12, idV, bV] at hf3
        have HF3 := Lib.hid hf3
        obtain ⟨Q1, Q2⟩ := eqPl_lit q0 q1 q2 q3 q4 q5 q6 q7 qk qq qa qn
        have HON : Hid ((#[.int .u8 (q0 : Int), .int .u8 (q1 : Int), .int .u8 (q2 : Int), .int .u8 (q3 : Int), .int .u8 (q4 : Int), .int .u8 (q5 : Int), .int .u8 (q6 : Int), .int .u8 (q7 : Int), .int .i64 qk, .int .i64 qq, .int .i64 qa, .int .i64 qn] : Array Value).all (·.oneCell') = true) := plC_one ((q0, q1, q2, q3, q4, q5, q6, q7), qk, qq, qa, qn)
        have ICQ : Hid ((Try.prog.info? 33).map (·.size) = some (#[.int .u8 (q0 : Int), .int .u8 (q1 : Int), .int .u8 (q2 : Int), .int .u8 (q3 : Int), .int .u8 (q4 : Int), .int .u8 (q5 : Int), .int .u8 (q6 : Int), .int .u8 (q7 : Int), .int .i64 qk, .int .i64 qq, .int .i64 qa, .int .i64 qn] : Array Value).size) := icz
        have HB9 := Lib.hid (HB8.out.alloc HB8.out.size (.cells #[.int .u8 (q0 : Int), .int .u8 (q1 : Int), .int .u8 (q2 : Int), .int .u8 (q3 : Int), .int .u8 (q4 : Int), .int .u8 (q5 : Int), .int .u8 (q6 : Int), .int .u8 (q7 : Int), .int .i64 qk, .int .i64 qq, .int .i64 qa, .int .i64 qn] 33))
        have hn9l := lt_of_block HR11.out
        have hr' : (r : Int) < (l.length : Int) := r1
        clear hf3 hr
        go_wp2_with fail
        refine (HF3.out _ (HL.out.below HB9.out)).mono ?_
        rintro e v7 ⟨rfl, hb⟩
        have HB10 := Lib.hid (Below.step HB9.out hb)
        have R9 := (hb.block n9 (by simp; omega)).trans ((Below.heap_alloc v6 (.cells #[.int .u8 (q0 : Int), .int .u8 (q1 : Int), .int .u8 (q2 : Int), .int .u8 (q3 : Int), .int .u8 (q4 : Int), .int .u8 (q5 : Int), .int .u8 (q6 : Int), .int .u8 (q7 : Int), .int .i64 qk, .int .i64 qq, .int .i64 qa, .int .i64 qn] 33) n9 hn9l).trans HR11.out)
        have R11 := (hb.block v6.heap.size (by simp)).trans (heap_alloc_new v6 (.cells #[.int .u8 (q0 : Int), .int .u8 (q1 : Int), .int .u8 (q2 : Int), .int .u8 (q3 : Int), .int .u8 (q4 : Int), .int .u8 (q5 : Int), .int .u8 (q6 : Int), .int .u8 (q7 : Int), .int .i64 qk, .int .i64 qq, .int .i64 qa, .int .i64 qn] 33))
        have hne : v6.heap.size ≠ n9 := by omega
        have hth := row_thereI R9
        have HTH : Hid (v7.there n9 0 (#[.int .u8 (q0 : Int), .int .u8 (q1 : Int), .int .u8 (q2 : Int), .int .u8 (q3 : Int), .int .u8 (q4 : Int), .int .u8 (q5 : Int), .int .u8 (q6 : Int), .int .u8 (q7 : Int), .int .i64 qk, .int .i64 qq, .int .i64 qa, .int .i64 qn] : Array Value).size) := hth
        clear hth
        have R9z : Hid ((v7.setCells n9 0 (#[.int .u8 (q0 : Int), .int .u8 (q1 : Int), .int .u8 (q2 : Int), .int .u8 (q3 : Int), .int .u8 (q4 : Int), .int .u8 (q5 : Int), .int .u8 (q6 : Int), .int .u8 (q7 : Int), .int .i64 qk, .int .i64 qq, .int .i64 qa, .int .i64 qn] : Array Value).toList).heap[n9]? = some (.cells #[.int .u8 (q0 : Int), .int .u8 (q1 : Int), .int .u8 (q2 : Int), .int .u8 (q3 : Int), .int .u8 (q4 : Int), .int .u8 (q5 : Int), .int .u8 (q6 : Int), .int .u8 (q7 : Int), .int .i64 qk, .int .i64 qq, .int .i64 qa, .int .i64 qn] 33 (0, 0))) := setCells_full R9 _ rfl
        have R11z : Hid ((v7.setCells n9 0 (#[.int .u8 (q0 : Int), .int .u8 (q1 : Int), .int .u8 (q2 : Int), .int .u8 (q3 : Int), .int .u8 (q4 : Int), .int .u8 (q5 : Int), .int .u8 (q6 : Int), .int .u8 (q7 : Int), .int .i64 qk, .int .i64 qq, .int .i64 qa, .int .i64 qn] : Array Value).toList).heap[v6.heap.size]? = some (.cells #[.int .u8 (q0 : Int), .int .u8 (q1 : Int), .int .u8 (q2 : Int), .int .u8 (q3 : Int), .int .u8 (q4 : Int), .int .u8 (q5 : Int), .int .u8 (q6 : Int), .int .u8 (q7 : Int), .int .i64 qk, .int .i64 qq, .int .i64 qa, .int .i64 qn] 33 (0, 0))) := (heap_setCells_other _ _ hne _ _ _).trans R11
        have BZ : Hid (Below w.heap.size w (v7.setCells n9 0 (#[.int .u8 (q0 : Int), .int .u8 (q1 : Int), .int .u8 (q2 : Int), .int .u8 (q3 : Int), .int .u8 (q4 : Int), .int .u8 (q5 : Int), .int .u8 (q6 : Int), .int .u8 (q7 : Int), .int .i64 qk, .int .i64 qq, .int .i64 qa, .int .i64 qn] : Array Value).toList)) := below_setCells hn9 _ _ HB10.out
        clear hb HB9 HB10 R9 R11 hne hn9l HF3 HR11 HB8 e0 e1 e2 e3 e4 e5 e6 e7 e8 e9 e10 e11
        generalize v6.heap.size = n11 at *
        go_wp2_with (with_reducible refine wpList_store_mid rfl 33 (.tmp 9) (.tmp 75) rfl n9 0 #[.int .u8 (q0 : Int), .int .u8 (q1 : Int), .int .u8 (q2 : Int), .int .u8 (q3 : Int), .int .u8 (q4 : Int), .int .u8 (q5 : Int), .int .u8 (q6 : Int), .int .u8 (q7 : Int), .int .i64 qk, .int .i64 qq, .int .i64 qa, .int .i64 qn] rfl rfl HTH.out ICQ.out HON.out ?_; generalize v7.setCells n9 0 (#[.int .u8 (q0 : Int), .int .u8 (q1 : Int), .int .u8 (q2 : Int), .int .u8 (q3 : Int), .int .u8 (q4 : Int), .int .u8 (q5 : Int), .int .u8 (q6 : Int), .int .u8 (q7 : Int), .int .i64 qk, .int .i64 qq, .int .i64 qa, .int .i64 qn] : Array Value).toList = v8 at *; (have c0 := cell_of_row v8 n9 0 _ _ _ R9z.out; have c1 := cell_of_row v8 n9 1 _ _ _ R9z.out; have c2 := cell_of_row v8 n9 2 _ _ _ R9z.out; have c3 := cell_of_row v8 n9 3 _ _ _ R9z.out; have c4 := cell_of_row v8 n9 4 _ _ _ R9z.out; have c5 := cell_of_row v8 n9 5 _ _ _ R9z.out; have c6 := cell_of_row v8 n9 6 _ _ _ R9z.out; have c7 := cell_of_row v8 n9 7 _ _ _ R9z.out; have c8 := cell_of_row v8 n9 8 _ _ _ R9z.out; have c9 := cell_of_row v8 n9 9 _ _ _ R9z.out; have c10 := cell_of_row v8 n9 10 _ _ _ R9z.out; have c11 := cell_of_row v8 n9 11 _ _ _ R9z.out; simp only [List.getElem?_toArray, List.getElem?_cons_zero, List.getElem?_cons_succ] at c0 c1 c2 c3 c4 c5 c6 c7 c8 c9 c10 c11); (have d0 := cell_of_row v8 n11 0 _ _ _ R11z.out; have d1 := cell_of_row v8 n11 1 _ _ _ R11z.out; have d2 := cell_of_row v8 n11 2 _ _ _ R11z.out; have d3 := cell_of_row v8 n11 3 _ _ _ R11z.out; have d4 := cell_of_row v8 n11 4 _ _ _ R11z.out; have d5 := cell_of_row v8 n11 5 _ _ _ R11z.out; have d6 := cell_of_row v8 n11 6 _ _ _ R11z.out; have d7 := cell_of_row v8 n11 7 _ _ _ R11z.out; have d8 := cell_of_row v8 n11 8 _ _ _ R11z.out; have d9 := cell_of_row v8 n11 9 _ _ _ R11z.out; have d10 := cell_of_row v8 n11 10 _ _ _ R11z.out; have d11 := cell_of_row v8 n11 11 _ _ _ R11z.out; simp only [List.getElem?_toArray, List.getElem?_cons_zero, List.getElem?_cons_succ] at d0 d1 d2 d3 d4 d5 d6 d7 d8 d9 d10 d11))
        go_ret
        exact ⟨rfl, BZ.out⟩
    · have f2 : ((c2 : Int) != 0) = true := by simpa using hz2
      clear HCX hz2
      go_wp2_with fail
      go_ret
      exact ⟨rfl, HB8.out⟩
end Go.Proofs.Ytiokodjlijaddaa
