/- The walks of package lease: Check, Give, Ask (of leases that are right); lumkeep's asker. -/
import Derived.Test.YtokckcmkbnhhhaaDoorNamesW2
import Derived.Test.YtokckcmkbnhhhaaDoorStoreNew
import Derived.Test.YtokckcmkbnhhhaaDoorDrawn
import Derived.Test.YtokckcmkbnhhhaaDoorResults
import Derived.Test.YtokckcmkbnhhhaaDoorRest
namespace Go.Proofs.YtokckcmkbnhhhaaDoor
open Go.RowKit Plain
theorem results_row_tmpI {P : Program} {fn : Func} {p q : Tmp} {ty : TypeId} (h : fn.results = #[.cell p ty, .tmp q]) (tmps : Array Value) (w : World) (g : Nat) (t : TypeId) (cs : Array Value) (fr : Nat × Nat) (d : TypeDesc)
    (hp : tmps.getD p undef = .pointer (some ⟨g, 0, none⟩)) (hg : w.heap[g]? = some (.cells cs t fr))
    (hu : P.underlying ty = some d) (hd : (match d with | .struct _ | .array _ _ => true | _ => false) = true) (hi : (P.info? ty).map (·.size) = some cs.size) :
    (results fn tmps).run P w = .ok (.tuple #[.agg cs, tmps.getD q undef]) w := by
  have hp' : tmps[p]?.getD undef = .pointer (some ⟨g, 0, none⟩) := by simpa using hp
  simp [results, h, hp', asAddr, run_loadVar_row w g t ty cs fr d hg hu hd hi]
theorem results_row_tmpJ {P : Program} {fn : Func} {p q r : Tmp} {ty : TypeId} (h : fn.results = #[.cell p ty, .tmp q, .tmp r]) (tmps : Array Value) (w : World) (g : Nat) (t : TypeId) (cs : Array Value) (fr : Nat × Nat) (d : TypeDesc)
    (hp : tmps.getD p undef = .pointer (some ⟨g, 0, none⟩)) (hg : w.heap[g]? = some (.cells cs t fr))
    (hu : P.underlying ty = some d) (hd : (match d with | .struct _ | .array _ _ => true | _ => false) = true) (hi : (P.info? ty).map (·.size) = some cs.size) :
    (results fn tmps).run P w = .ok (.tuple #[.agg cs, tmps.getD q undef, tmps.getD r undef]) w := by
  have hp' : tmps[p]?.getD undef = .pointer (some ⟨g, 0, none⟩) := by simpa using hp
  simp [results, h, hp', asAddr, run_loadVar_row w g t ty cs fr d hg hu hd hi]
theorem row_thereI {w : World} {b : Nat} {t : TypeId} {cs : Array Value} (h : w.heap[b]? = some (.cells cs t (0, 0))) : w.there b 0 cs.size := fun j hj => by
  rw [Nat.zero_add, cell_of_row _ _ _ _ _ _ h, Array.getElem?_eq_getElem hj]
  exact ⟨rfl, frozen_of_row _ _ _ _ _ h⟩
def lsC (who : ByteArray) (until_ tok : Int) : Array Value := #[.string who, .int .i64 until_, .int .i64 tok]
def lsZ : Array Value := #[.string ⟨#[]⟩, .int .i64 0, .int .i64 0]
theorem info_lease : (Tryd.prog.info? 25).map (·.size) = some 3 := by kernel_rfl
theorem ls_cells {w : World} {B : Nat} {who : ByteArray} {u t : Int} {ty : TypeId} (h : w.heap[B]? = some (.cells #[.string who, .int .i64 u, .int .i64 t] ty (0, 0))) :
    w.cell? ⟨B, 0, none⟩ = some (.string who) ∧ w.cell? ⟨B, 1, none⟩ = some (.int .i64 u) ∧ w.cell? ⟨B, 2, none⟩ = some (.int .i64 t) :=
  ⟨cell_of_row _ _ 0 _ _ _ h, cell_of_row _ _ 1 _ _ _ h, cell_of_row _ _ 2 _ _ _ h⟩
set_option maxRecDepth 100000 in
theorem right_in (n : Int) (w : World) (h1 : 0 ≤ n) (h2 : n ≤ 549755813888) : Calls Tryd.prog 42 #[.int .i64 n] w fun e w' => e = .returned (.bool true) ∧ w = w' := by
  go_enter Tryd.func42, Tryd.ntmps42
  go_wp2_with fail
  go_ret
  exact ⟨rfl, rfl⟩
set_option maxRecDepth 100000 in
theorem right_out (n : Int) (w : World) (h : ¬ (0 ≤ n ∧ n ≤ 549755813888)) : Calls Tryd.prog 42 #[.int .i64 n] w fun e w' => e = .returned (.bool false) ∧ w = w' := by
  by_cases h1 : 0 ≤ n
  · have h2 : ¬ n ≤ 549755813888 := fun h2 => h ⟨h1, h2⟩
    clear h
    go_enter Tryd.func42, Tryd.ntmps42
    go_wp2_with fail
    go_ret
    exact ⟨by simp, rfl⟩
  · clear h
    go_enter Tryd.func42, Tryd.ntmps42
    go_wp2_with fail
    go_ret
    exact ⟨by simp, rfl⟩
set_option maxRecDepth 100000 in
theorem inRangeL_in (n : Int) (w : World) (h1 : 0 ≤ n) (h2 : n ≤ 1099511627776) : Calls Tryd.prog 43 #[.int .i64 n] w fun e w' => e = .returned (.bool true) ∧ w = w' := by
  go_enter Tryd.func43, Tryd.ntmps43
  go_wp2_with fail
  go_ret
  exact ⟨rfl, rfl⟩
/-- a lease that is right -/
def LsOk (who : ByteArray) (u t : Int) : Prop := (0 ≤ u ∧ u ≤ 1099511627776) ∧ (0 ≤ t ∧ t ≤ 1099511627776) ∧ who.size ≤ 1048576 ∧ (who.size = 0 ∨ chkB who = 0)
set_option maxRecDepth 100000 in
theorem lcheck_ok (who : ByteArray) (u t : Int) (w : World) (h : LsOk who u t) (hT : Tabs w) :
    Calls Tryd.prog 41 #[.agg #[.string who, .int .i64 u, .int .i64 t]] w fun e w' => e = .returned (.int .i64 0) ∧ Below w.heap.size w w' := by
  have HI := Lib.hid inRangeL_in
  have HC := Lib.hid ncheck_any
  have HT := Lib.hid hT
  obtain ⟨⟨u1, u2⟩, ⟨t1, t2⟩, hz, hw⟩ := h
  have HB0 : Hid (Below w.heap.size w (w.alloc (.cells #[.string who, .int .i64 u, .int .i64 t] 25))) := (Below.refl _ _).alloc (Nat.le_refl _) _
  clear hT
  by_cases h0 : who.size = 0
  · have f0 := empty_strB h0
    clear hw h0
    go_enter Tryd.func41, Tryd.ntmps41
    go_wp2_with fail
    refine (HI.out t _ t1 t2).mono ?_
    rintro e w1 ⟨rfl, rfl⟩
    go_wp2_with fail
    refine (HI.out u _ u1 u2).mono ?_
    rintro e w1 ⟨rfl, rfl⟩
    go_wp2_with fail
    go_ret
    exact ⟨rfl, HB0.out⟩
  · have f0 := full_strB h0
    have hk : chkB who = 0 := by rcases hw with h | h; exact absurd h h0; exact h
    have HK := Lib.hid hk
    clear hw h0 hk
    go_enter Tryd.func41, Tryd.ntmps41
    go_wp2_with fail
    refine (HI.out t _ t1 t2).mono ?_
    rintro e w1 ⟨rfl, rfl⟩
    go_wp2_with fail
    refine (HI.out u _ u1 u2).mono ?_
    rintro e w1 ⟨rfl, rfl⟩
    go_wp2_with fail
    refine (HC.out who _ (by omega) (HT.out.below HB0.out)).mono ?_
    rintro e w1 ⟨rfl, hb1⟩
    rw [HK.out]
    have HB1 := Lib.hid (Below.step HB0.out hb1)
    go_wp2_with fail
    go_ret
    exact ⟨rfl, HB1.out⟩
/-- what Give leaves -/
def GvEnd (w0 : World) (who : ByteArray) (u t token now : Int) (e : Ending) (w : World) : Prop := Below w0.heap.size w0 w ∧
  (((0 ≤ now ∧ now ≤ 549755813888) ∧ who.size ≠ 0 ∧ token = t ∧ e = .returned (.tuple #[.agg #[.string ⟨#[]⟩, .int .i64 (min u now), .int .i64 t], .int .i64 0])) ∨
   (¬ ((0 ≤ now ∧ now ≤ 549755813888) ∧ who.size ≠ 0 ∧ token = t) ∧ ∃ c : Int, c ≠ 0 ∧ e = .returned (.tuple #[.agg #[.string ⟨#[]⟩, .int .i64 0, .int .i64 0], .int .i64 c])))
set_option maxRecDepth 100000 in
set_option maxHeartbeats 1000000 in
theorem give_any (who : ByteArray) (u t token now : Int) (w : World) (h : LsOk who u t) (hT : Tabs w) :
    Calls Tryd.prog 18 #[.agg #[.string who, .int .i64 u, .int .i64 t], .int .i64 token, .int .i64 now] w (GvEnd w who u t token now) := by
  have HON : ∀ (a : ByteArray) (x y : Int), (#[.string a, .int .i64 x, .int .i64 y] : Array Value).all (·.oneCell') = true := fun a x y => by simp [Value.oneCell']
  have HI3 : ∀ (a : ByteArray) (x y : Int), (Tryd.prog.info? 25).map (·.size) = some (#[.string a, .int .i64 x, .int .i64 y] : Array Value).size := fun _ _ _ => info_lease
  have HON := Lib.hid HON
  have HI3 := Lib.hid HI3
  have HCK := Lib.hid lcheck_ok
  have HRI := Lib.hid right_in
  have HRO := Lib.hid right_out
  have HOK := Lib.hid h
  have HT := Lib.hid hT
  have b0 : Below w.heap.size w ((w.alloc (.cells #[.string who, .int .i64 u, .int .i64 t] 25)).alloc (.cells #[.string ⟨#[]⟩, .int .i64 0, .int .i64 0] 25)) := ((Below.refl _ _).alloc (Nat.le_refl _) _).alloc (by simp) _
  have r1 : ((w.alloc (.cells #[.string who, .int .i64 u, .int .i64 t] 25)).alloc (.cells #[.string ⟨#[]⟩, .int .i64 0, .int .i64 0] 25)).heap[w.heap.size]? = some (.cells #[.string who, .int .i64 u, .int .i64 t] 25 (0, 0)) := (Below.heap_alloc _ _ _ (by simp)).trans (heap_alloc_new _ _)
  have r2 : ((w.alloc (.cells #[.string who, .int .i64 u, .int .i64 t] 25)).alloc (.cells #[.string ⟨#[]⟩, .int .i64 0, .int .i64 0] 25)).heap[w.heap.size + 1]? = some (.cells #[.string ⟨#[]⟩, .int .i64 0, .int .i64 0] 25 (0, 0)) := by
    have h := heap_alloc_new (w.alloc (.cells #[.string who, .int .i64 u, .int .i64 t] 25)) (.cells #[.string ⟨#[]⟩, .int .i64 0, .int .i64 0] 25)
    have e : (w.alloc (.cells #[.string who, .int .i64 u, .int .i64 t] 25)).heap.size = w.heap.size + 1 := by simp
    rwa [e] at h
  have HB0 := Lib.hid b0
  have HR1 := Lib.hid r1
  have HR2 := Lib.hid r2
  have ⟨x0, x1, x2⟩ := ls_cells r1
  clear h hT b0 r1 r2
  go_enter Tryd.func18, Tryd.ntmps18
  go_wp2_with fail
  clear x0 x1 x2
  generalize (w.alloc (.cells #[.string who, .int .i64 u, .int .i64 t] 25)).alloc (.cells #[.string ⟨#[]⟩, .int .i64 0, .int .i64 0] 25) = wa at *
  refine (HCK.out who u t wa HOK.out (HT.out.below HB0.out)).mono ?_
  rintro e w1 ⟨rfl, hb1⟩
  have HB1 := Lib.hid (Below.step HB0.out hb1)
  have HR1b := Lib.hid ((hb1.block _ (lt_of_block HR1.out)).trans HR1.out)
  have HR2b := Lib.hid ((hb1.block _ (lt_of_block HR2.out)).trans HR2.out)
  have ⟨x0, x1, x2⟩ := ls_cells HR1b.out
  have HTH : Hid (w1.there (w.heap.size + 1) 0 (#[.string ⟨#[]⟩, .int .i64 0, .int .i64 0] : Array Value).size) := row_thereI HR2b.out
  clear hb1 HB0 HR1 HR2
  go_wp2_with fail
  by_cases hn : 0 ≤ now ∧ now ≤ 549755813888
  · refine (HRI.out now w1 hn.1 hn.2).mono ?_
    rintro e w2 ⟨rfl, rfl⟩
    have HN := Lib.hid hn
    clear hn
    by_cases h0 : who.size = 0
    · have f0 := empty_strB h0
      have H0 := Lib.hid h0
      clear h0
      go_wp2_with (with_reducible refine wpList_store_mid rfl 25 (.tmp 6) (.tmp 30) rfl (w.heap.size + 1) 0 #[.string ⟨#[]⟩, .int .i64 0, .int .i64 0] rfl rfl HTH.out (HI3.out _ _ _) (HON.out _ _ _) ?_)
      (try simp only [Exit.inBlock, Exit.then])
      refine bodyPost_ret (results_row_tmpI (p := 6) (q := 7) (ty := 25) rfl _ _ (w.heap.size + 1) 25 #[.string ⟨#[]⟩, .int .i64 0, .int .i64 0] (0, 0) _ rfl (setCells_full HR2b.out #[.string ⟨#[]⟩, .int .i64 0, .int .i64 0] rfl) Tryd.underlying25 rfl (HI3.out _ _ _)) rfl ?_
      exact ⟨below_setCells (Nat.le_succ _) _ _ HB1.out, .inr ⟨fun h => h.2.1 H0.out, 16, by decide, rfl⟩⟩
    · have f0 := full_strB h0
      have H0 := Lib.hid h0
      clear h0
      by_cases ht : token = t
      · have HTK := Lib.hid ht
        have f1 : (token != t) = false := by simp [ht]
        clear ht
        have HTH2 : Hid (w1.there (w.heap.size + 1) 0 (#[.string ⟨#[]⟩, .int .i64 (min u now), .int .i64 t] : Array Value).size) := HTH.out
        go_wp2_with (with_reducible refine wpList_store_mid rfl 25 (.tmp 6) (.tmp 37) rfl (w.heap.size + 1) 0 #[.string ⟨#[]⟩, .int .i64 (min u now), .int .i64 t] rfl rfl HTH2.out (HI3.out _ _ _) (HON.out _ _ _) ?_)
        (try simp only [Exit.inBlock, Exit.then])
        refine bodyPost_ret (results_row_tmpI (p := 6) (q := 7) (ty := 25) rfl _ _ (w.heap.size + 1) 25 #[.string ⟨#[]⟩, .int .i64 (min u now), .int .i64 t] (0, 0) _ rfl (setCells_full HR2b.out #[.string ⟨#[]⟩, .int .i64 (min u now), .int .i64 t] rfl) Tryd.underlying25 rfl (HI3.out _ _ _)) rfl ?_
        exact ⟨below_setCells (Nat.le_succ _) _ _ HB1.out, .inl ⟨HN.out, H0.out, HTK.out, rfl⟩⟩
      · have HTK := Lib.hid ht
        have f1 : (token != t) = true := by simpa using ht
        clear ht
        go_wp2_with (with_reducible refine wpList_store_mid rfl 25 (.tmp 6) (.tmp 30) rfl (w.heap.size + 1) 0 #[.string ⟨#[]⟩, .int .i64 0, .int .i64 0] rfl rfl HTH.out (HI3.out _ _ _) (HON.out _ _ _) ?_)
        (try simp only [Exit.inBlock, Exit.then])
        refine bodyPost_ret (results_row_tmpI (p := 6) (q := 7) (ty := 25) rfl _ _ (w.heap.size + 1) 25 #[.string ⟨#[]⟩, .int .i64 0, .int .i64 0] (0, 0) _ rfl (setCells_full HR2b.out #[.string ⟨#[]⟩, .int .i64 0, .int .i64 0] rfl) Tryd.underlying25 rfl (HI3.out _ _ _)) rfl ?_
        exact ⟨below_setCells (Nat.le_succ _) _ _ HB1.out, .inr ⟨fun h => HTK.out h.2.2, 16, by decide, rfl⟩⟩
  · refine (HRO.out now w1 hn).mono ?_
    rintro e w2 ⟨rfl, rfl⟩
    have HN := Lib.hid hn
    clear hn
    go_wp2_with (with_reducible refine wpList_store_mid rfl 25 (.tmp 6) (.tmp 19) rfl (w.heap.size + 1) 0 #[.string ⟨#[]⟩, .int .i64 0, .int .i64 0] rfl rfl HTH.out (HI3.out _ _ _) (HON.out _ _ _) ?_)
    (try simp only [Exit.inBlock, Exit.then])
    refine bodyPost_ret (results_row_tmpI (p := 6) (q := 7) (ty := 25) rfl _ _ (w.heap.size + 1) 25 #[.string ⟨#[]⟩, .int .i64 0, .int .i64 0] (0, 0) _ rfl (setCells_full HR2b.out #[.string ⟨#[]⟩, .int .i64 0, .int .i64 0] rfl) Tryd.underlying25 rfl (HI3.out _ _ _)) rfl ?_
    exact ⟨below_setCells (Nat.le_succ _) _ _ HB1.out, .inr ⟨fun h => HN.out h.1, 1, by decide, rfl⟩⟩
/-- a row of three cells written over, cell by cell -/
theorem row3_steps {W : World} {B : Nat} {a b c : Value} {t : TypeId} (h : W.heap[B]? = some (.cells #[a, b, c] t (0, 0))) (v0 v1 v2 : Value) :
    W.cell? ⟨B, 0, none⟩ = some a ∧ W.frozen? ⟨B, 0, none⟩ = false ∧ (W.setCell ⟨B, 0, none⟩ v0).cell? ⟨B, 1, none⟩ = some b ∧ (W.setCell ⟨B, 0, none⟩ v0).frozen? ⟨B, 1, none⟩ = false ∧
    ((W.setCell ⟨B, 0, none⟩ v0).setCell ⟨B, 1, none⟩ v1).cell? ⟨B, 2, none⟩ = some c ∧ ((W.setCell ⟨B, 0, none⟩ v0).setCell ⟨B, 1, none⟩ v1).frozen? ⟨B, 2, none⟩ = false ∧
    (((W.setCell ⟨B, 0, none⟩ v0).setCell ⟨B, 1, none⟩ v1).setCell ⟨B, 2, none⟩ v2).heap[B]? = some (.cells #[v0, v1, v2] t (0, 0)) := by
  have h1 : (W.setCell ⟨B, 0, none⟩ v0).heap[B]? = some (.cells #[v0, b, c] t (0, 0)) := heap_setCell_same W B 0 _ t v0 h
  have h2 : ((W.setCell ⟨B, 0, none⟩ v0).setCell ⟨B, 1, none⟩ v1).heap[B]? = some (.cells #[v0, v1, c] t (0, 0)) := heap_setCell_same _ B 1 _ t v1 h1
  have h3 : (((W.setCell ⟨B, 0, none⟩ v0).setCell ⟨B, 1, none⟩ v1).setCell ⟨B, 2, none⟩ v2).heap[B]? = some (.cells #[v0, v1, v2] t (0, 0)) := heap_setCell_same _ B 2 _ t v2 h2
  exact ⟨cell_of_row _ _ 0 _ _ _ h, frozen_of_row _ _ 0 _ _ h, cell_of_row _ _ 1 _ _ _ h1, frozen_of_row _ _ 1 _ _ h1, cell_of_row _ _ 2 _ _ _ h2, frozen_of_row _ _ 2 _ _ h2, h3⟩
/-- what Ask leaves, of ten units -/
def BusyP (who : ByteArray) (u : Int) (asker : ByteArray) (now : Int) : Prop := who.size ≠ 0 ∧ who ≠ asker ∧ now < u
def AkEnd (w0 : World) (who : ByteArray) (u t : Int) (asker : ByteArray) (now : Int) (e : Ending) (w : World) : Prop := Below w0.heap.size w0 w ∧
  (((0 ≤ now ∧ now ≤ 549755813888) ∧ ¬ BusyP who u asker now ∧ t ≠ 1099511627776 ∧ e = .returned (.tuple #[.agg #[.string asker, .int .i64 (max (now + 10) u), .int .i64 (t + 1)], .int .i64 (t + 1), .int .i64 0])) ∨
   ((0 ≤ now ∧ now ≤ 549755813888) ∧ BusyP who u asker now ∧ e = .returned (.tuple #[.agg #[.string ⟨#[]⟩, .int .i64 0, .int .i64 0], .int .i64 0, .int .i64 15])) ∨
   ((¬ (0 ≤ now ∧ now ≤ 549755813888) ∨ t = 1099511627776) ∧ ∃ c : Int, c ≠ 0 ∧ e = .returned (.tuple #[.agg #[.string ⟨#[]⟩, .int .i64 0, .int .i64 0], .int .i64 0, .int .i64 c])))
set_option maxRecDepth 100000 in
set_option maxHeartbeats 1000000 in
theorem ask_any (who : ByteArray) (u t : Int) (asker : ByteArray) (now : Int) (w : World) (h : LsOk who u t) (ha : chkB asker = 0) (haz : asker.size ≤ 1048576) (hT : Tabs w) :
    Calls Tryd.prog 19 #[.agg #[.string who, .int .i64 u, .int .i64 t], .string asker, .int .i64 now, .int .i64 10] w (AkEnd w who u t asker now) := by
  have HON : ∀ (a : ByteArray) (x y : Int), (#[.string a, .int .i64 x, .int .i64 y] : Array Value).all (·.oneCell') = true := fun a x y => by simp [Value.oneCell']
  have HI3 : ∀ (a : ByteArray) (x y : Int), (Tryd.prog.info? 25).map (·.size) = some (#[.string a, .int .i64 x, .int .i64 y] : Array Value).size := fun _ _ _ => info_lease
  have HON := Lib.hid HON
  have HI3 := Lib.hid HI3
  have HCK := Lib.hid lcheck_ok
  have HNK := Lib.hid ncheck_any
  have HA0 := Lib.hid ha
  have HRI := Lib.hid right_in
  have HRO := Lib.hid right_out
  have HOK := Lib.hid h
  have HT := Lib.hid hT
  have b0 : Below w.heap.size w ((w.alloc (.cells #[.string who, .int .i64 u, .int .i64 t] 25)).alloc (.cells #[.string ⟨#[]⟩, .int .i64 0, .int .i64 0] 25)) := ((Below.refl _ _).alloc (Nat.le_refl _) _).alloc (by simp) _
  have r1 : ((w.alloc (.cells #[.string who, .int .i64 u, .int .i64 t] 25)).alloc (.cells #[.string ⟨#[]⟩, .int .i64 0, .int .i64 0] 25)).heap[w.heap.size]? = some (.cells #[.string who, .int .i64 u, .int .i64 t] 25 (0, 0)) := (Below.heap_alloc _ _ _ (by simp)).trans (heap_alloc_new _ _)
  have r2 : ((w.alloc (.cells #[.string who, .int .i64 u, .int .i64 t] 25)).alloc (.cells #[.string ⟨#[]⟩, .int .i64 0, .int .i64 0] 25)).heap[w.heap.size + 1]? = some (.cells #[.string ⟨#[]⟩, .int .i64 0, .int .i64 0] 25 (0, 0)) := by
    have h := heap_alloc_new (w.alloc (.cells #[.string who, .int .i64 u, .int .i64 t] 25)) (.cells #[.string ⟨#[]⟩, .int .i64 0, .int .i64 0] 25)
    have e : (w.alloc (.cells #[.string who, .int .i64 u, .int .i64 t] 25)).heap.size = w.heap.size + 1 := by simp
    rwa [e] at h
  have HB0 := Lib.hid b0
  have HR1 := Lib.hid r1
  have HR2 := Lib.hid r2
  have ⟨x0, x1, x2⟩ := ls_cells r1
  have ⟨⟨u1, u2⟩, ⟨t1, t2⟩, _, _⟩ := h
  clear h hT b0 r1 r2 ha
  go_enter Tryd.func19, Tryd.ntmps19
  go_wp2_with fail
  clear x0 x1 x2
  generalize (w.alloc (.cells #[.string who, .int .i64 u, .int .i64 t] 25)).alloc (.cells #[.string ⟨#[]⟩, .int .i64 0, .int .i64 0] 25) = wa at *
  refine (HCK.out who u t wa HOK.out (HT.out.below HB0.out)).mono ?_
  rintro e w0 ⟨rfl, hb0⟩
  have HBa := Lib.hid (Below.step HB0.out hb0)
  have HR1a := Lib.hid ((hb0.block _ (lt_of_block HR1.out)).trans HR1.out)
  have HR2a := Lib.hid ((hb0.block _ (lt_of_block HR2.out)).trans HR2.out)
  clear hb0 HB0 HR1 HR2
  go_wp2_with fail
  refine (HNK.out asker w0 (by omega) (HT.out.below HBa.out)).mono ?_
  rintro e w1 ⟨rfl, hb1⟩
  rw [HA0.out]
  have HB1 := Lib.hid (Below.step HBa.out hb1)
  have HR1b := Lib.hid ((hb1.block _ (lt_of_block HR1a.out)).trans HR1a.out)
  have HR2b := Lib.hid ((hb1.block _ (lt_of_block HR2a.out)).trans HR2a.out)
  have ⟨x0, x1, x2⟩ := ls_cells HR1b.out
  have HTH : Hid (w1.there (w.heap.size + 1) 0 (#[.string ⟨#[]⟩, .int .i64 0, .int .i64 0] : Array Value).size) := row_thereI HR2b.out
  clear hb1 HBa HR1a HR2a
  go_wp2_with fail
  by_cases hn : 0 ≤ now ∧ now ≤ 549755813888
  rotate_left
  · refine (HRO.out now w1 hn).mono ?_
    rintro e w2 ⟨rfl, rfl⟩
    have HN := Lib.hid hn
    clear hn
    go_wp2_with (with_reducible refine wpList_store_mid rfl 25 (.tmp 8) (.tmp 38) rfl (w.heap.size + 1) 0 #[.string ⟨#[]⟩, .int .i64 0, .int .i64 0] rfl rfl HTH.out (HI3.out _ _ _) (HON.out _ _ _) ?_)
    (try simp only [Exit.inBlock, Exit.then])
    refine bodyPost_ret (results_row_tmpJ (p := 8) (q := 9) (r := 10) (ty := 25) rfl _ _ (w.heap.size + 1) 25 #[.string ⟨#[]⟩, .int .i64 0, .int .i64 0] (0, 0) _ rfl (setCells_full HR2b.out #[.string ⟨#[]⟩, .int .i64 0, .int .i64 0] rfl) Tryd.underlying25 rfl (HI3.out _ _ _)) rfl ?_
    exact ⟨below_setCells (Nat.le_succ _) _ _ HB1.out, .inr (.inr ⟨.inl HN.out, 1, by decide, rfl⟩)⟩
  refine (HRI.out now w1 hn.1 hn.2).mono ?_
  rintro e w2 ⟨rfl, rfl⟩
  have HN := Lib.hid hn
  have hn1 := hn.1
  have hn2 := hn.2
  clear hn
  have i1 : IntKind.i64.wrap (now + 10) = now + 10 := wraps_i64 _ (by omega) (by omega)
  have i2 : IntKind.i64.wrap (t + 1) = t + 1 := wraps_i64 _ (by omega) (by omega)
  by_cases h0 : who.size = 0
  · have f0 := empty_strB h0
    have HNB : Hid (¬ BusyP who u asker now) := fun h => h.1 h0
    clear h0
    by_cases ht : t = 1099511627776
    · have f9 : (t == 1099511627776) = true := by simp [ht]
      have HTM := Lib.hid ht
      clear ht
      go_wp2_with (with_reducible refine wpList_store_mid rfl 25 (.tmp 8) (.tmp 60) rfl (w.heap.size + 1) 0 #[.string ⟨#[]⟩, .int .i64 0, .int .i64 0] rfl rfl HTH.out (HI3.out _ _ _) (HON.out _ _ _) ?_)
      (try simp only [Exit.inBlock, Exit.then])
      refine bodyPost_ret (results_row_tmpJ (p := 8) (q := 9) (r := 10) (ty := 25) rfl _ _ (w.heap.size + 1) 25 #[.string ⟨#[]⟩, .int .i64 0, .int .i64 0] (0, 0) _ rfl (setCells_full HR2b.out #[.string ⟨#[]⟩, .int .i64 0, .int .i64 0] rfl) Tryd.underlying25 rfl (HI3.out _ _ _)) rfl ?_
      exact ⟨below_setCells (Nat.le_succ _) _ _ HB1.out, .inr (.inr ⟨.inr HTM.out, 12, by decide, rfl⟩)⟩
    · have f9 : (t == 1099511627776) = false := by simpa using ht
      have HTM := Lib.hid ht
      clear ht
      have RA := Lib.hid (heap_alloc_new w1 (.cells #[.string asker, .int .i64 (max (now + 10) u), .int .i64 (t + 1)] 25))
      have HB5 := Lib.hid (HB1.out.alloc HB1.out.size (.cells #[.string asker, .int .i64 (max (now + 10) u), .int .i64 (t + 1)] 25))
      have HR5 := Lib.hid ((Below.heap_alloc w1 (.cells #[.string asker, .int .i64 (max (now + 10) u), .int .i64 (t + 1)] 25) _ (lt_of_block HR2b.out)).trans HR2b.out)
      have HNE : Hid (w.heap.size + 1 ≠ w1.heap.size) := by have := lt_of_block HR2b.out; show _ ≠ _; omega
      go_wp2_with fail
      clear x0 x1 x2 HTH
      generalize w1.alloc (.cells #[.string asker, .int .i64 (max (now + 10) u), .int .i64 (t + 1)] 25) = W at *
      generalize w1.heap.size = D at *
      have ⟨z0, z1, z2, z3, z4, z5, z6⟩ := row3_steps HR5.out (.string asker) (.int .i64 (max (now + 10) u)) (.int .i64 (t + 1))
      have HZ6 := Lib.hid z6
      have RD : (((W.setCell ⟨w.heap.size + 1, 0, none⟩ (.string asker)).setCell ⟨w.heap.size + 1, 1, none⟩ (.int .i64 (max (now + 10) u))).setCell ⟨w.heap.size + 1, 2, none⟩ (.int .i64 (t + 1))).heap[D]? = some (.cells #[.string asker, .int .i64 (max (now + 10) u), .int .i64 (t + 1)] 25 (0, 0)) := by
        rw [heap_setCell_other _ _ _ _ (fun e => HNE.out e.symm), heap_setCell_other _ _ _ _ (fun e => HNE.out e.symm), heap_setCell_other _ _ _ _ (fun e => HNE.out e.symm)]
        exact RA.out
      have ⟨y0, y1, y2⟩ := ls_cells RA.out
      have ⟨q0, q1, q2⟩ := ls_cells RD
      clear z6 RD
      go_region
      go_wp2_with fail
      (try simp only [Exit.inBlock, Exit.then])
      refine bodyPost_ret (results_row_tmpJ (p := 8) (q := 9) (r := 10) (ty := 25) rfl _ _ (w.heap.size + 1) 25 #[.string asker, .int .i64 (max (now + 10) u), .int .i64 (t + 1)] (0, 0) _ rfl HZ6.out Tryd.underlying25 rfl (HI3.out _ _ _)) rfl ?_
      exact ⟨Below.drew (below_setCells (Nat.le_succ _) [.string asker, .int .i64 (max (now + 10) u), .int .i64 (t + 1)] 0 HB5.out), .inl ⟨HN.out, HNB.out, HTM.out, rfl⟩⟩
  · have f0 := full_strB h0
    by_cases h1 : who = asker
    · have f1 : (who.toList == asker.toList) = true := same_strB h1
      have HNB : Hid (¬ BusyP who u asker now) := fun h => h.2.1 h1
      clear h0 h1
      by_cases ht : t = 1099511627776
      · have f9 : (t == 1099511627776) = true := by simp [ht]
        have HTM := Lib.hid ht
        clear ht
        go_wp2_with (with_reducible refine wpList_store_mid rfl 25 (.tmp 8) (.tmp 60) rfl (w.heap.size + 1) 0 #[.string ⟨#[]⟩, .int .i64 0, .int .i64 0] rfl rfl HTH.out (HI3.out _ _ _) (HON.out _ _ _) ?_)
        (try simp only [Exit.inBlock, Exit.then])
        refine bodyPost_ret (results_row_tmpJ (p := 8) (q := 9) (r := 10) (ty := 25) rfl _ _ (w.heap.size + 1) 25 #[.string ⟨#[]⟩, .int .i64 0, .int .i64 0] (0, 0) _ rfl (setCells_full HR2b.out #[.string ⟨#[]⟩, .int .i64 0, .int .i64 0] rfl) Tryd.underlying25 rfl (HI3.out _ _ _)) rfl ?_
        exact ⟨below_setCells (Nat.le_succ _) _ _ HB1.out, .inr (.inr ⟨.inr HTM.out, 12, by decide, rfl⟩)⟩
      · have f9 : (t == 1099511627776) = false := by simpa using ht
        have HTM := Lib.hid ht
        clear ht
        have RA := Lib.hid (heap_alloc_new w1 (.cells #[.string asker, .int .i64 (max (now + 10) u), .int .i64 (t + 1)] 25))
        have HB5 := Lib.hid (HB1.out.alloc HB1.out.size (.cells #[.string asker, .int .i64 (max (now + 10) u), .int .i64 (t + 1)] 25))
        have HR5 := Lib.hid ((Below.heap_alloc w1 (.cells #[.string asker, .int .i64 (max (now + 10) u), .int .i64 (t + 1)] 25) _ (lt_of_block HR2b.out)).trans HR2b.out)
        have HNE : Hid (w.heap.size + 1 ≠ w1.heap.size) := by have := lt_of_block HR2b.out; show _ ≠ _; omega
        go_wp2_with fail
        clear x0 x1 x2 HTH
        generalize w1.alloc (.cells #[.string asker, .int .i64 (max (now + 10) u), .int .i64 (t + 1)] 25) = W at *
        generalize w1.heap.size = D at *
        have ⟨z0, z1, z2, z3, z4, z5, z6⟩ := row3_steps HR5.out (.string asker) (.int .i64 (max (now + 10) u)) (.int .i64 (t + 1))
        have HZ6 := Lib.hid z6
        have RD : (((W.setCell ⟨w.heap.size + 1, 0, none⟩ (.string asker)).setCell ⟨w.heap.size + 1, 1, none⟩ (.int .i64 (max (now + 10) u))).setCell ⟨w.heap.size + 1, 2, none⟩ (.int .i64 (t + 1))).heap[D]? = some (.cells #[.string asker, .int .i64 (max (now + 10) u), .int .i64 (t + 1)] 25 (0, 0)) := by
          rw [heap_setCell_other _ _ _ _ (fun e => HNE.out e.symm), heap_setCell_other _ _ _ _ (fun e => HNE.out e.symm), heap_setCell_other _ _ _ _ (fun e => HNE.out e.symm)]
          exact RA.out
        have ⟨y0, y1, y2⟩ := ls_cells RA.out
        have ⟨q0, q1, q2⟩ := ls_cells RD
        clear z6 RD
        go_region
        go_wp2_with fail
        (try simp only [Exit.inBlock, Exit.then])
        refine bodyPost_ret (results_row_tmpJ (p := 8) (q := 9) (r := 10) (ty := 25) rfl _ _ (w.heap.size + 1) 25 #[.string asker, .int .i64 (max (now + 10) u), .int .i64 (t + 1)] (0, 0) _ rfl HZ6.out Tryd.underlying25 rfl (HI3.out _ _ _)) rfl ?_
        exact ⟨Below.drew (below_setCells (Nat.le_succ _) [.string asker, .int .i64 (max (now + 10) u), .int .i64 (t + 1)] 0 HB5.out), .inl ⟨HN.out, HNB.out, HTM.out, rfl⟩⟩
    · have f1 : (who.toList == asker.toList) = false := other_strB h1
      by_cases h2 : now < u
      · have HBS : Hid (BusyP who u asker now) := ⟨h0, h1, h2⟩
        clear h0 h1
        go_wp2_with (with_reducible refine wpList_store_mid rfl 25 (.tmp 8) (.tmp 55) rfl (w.heap.size + 1) 0 #[.string ⟨#[]⟩, .int .i64 0, .int .i64 0] rfl rfl HTH.out (HI3.out _ _ _) (HON.out _ _ _) ?_)
        (try simp only [Exit.inBlock, Exit.then])
        refine bodyPost_ret (results_row_tmpJ (p := 8) (q := 9) (r := 10) (ty := 25) rfl _ _ (w.heap.size + 1) 25 #[.string ⟨#[]⟩, .int .i64 0, .int .i64 0] (0, 0) _ rfl (setCells_full HR2b.out #[.string ⟨#[]⟩, .int .i64 0, .int .i64 0] rfl) Tryd.underlying25 rfl (HI3.out _ _ _)) rfl ?_
        exact ⟨below_setCells (Nat.le_succ _) _ _ HB1.out, .inr (.inl ⟨HN.out, HBS.out, rfl⟩)⟩
      · have HNB : Hid (¬ BusyP who u asker now) := fun h => h2 h.2.2
        clear h0 h1
        by_cases ht : t = 1099511627776
        · have f9 : (t == 1099511627776) = true := by simp [ht]
          have HTM := Lib.hid ht
          clear ht
          go_wp2_with (with_reducible refine wpList_store_mid rfl 25 (.tmp 8) (.tmp 60) rfl (w.heap.size + 1) 0 #[.string ⟨#[]⟩, .int .i64 0, .int .i64 0] rfl rfl HTH.out (HI3.out _ _ _) (HON.out _ _ _) ?_)
          (try simp only [Exit.inBlock, Exit.then])
          refine bodyPost_ret (results_row_tmpJ (p := 8) (q := 9) (r := 10) (ty := 25) rfl _ _ (w.heap.size + 1) 25 #[.string ⟨#[]⟩, .int .i64 0, .int .i64 0] (0, 0) _ rfl (setCells_full HR2b.out #[.string ⟨#[]⟩, .int .i64 0, .int .i64 0] rfl) Tryd.underlying25 rfl (HI3.out _ _ _)) rfl ?_
          exact ⟨below_setCells (Nat.le_succ _) _ _ HB1.out, .inr (.inr ⟨.inr HTM.out, 12, by decide, rfl⟩)⟩
        · have f9 : (t == 1099511627776) = false := by simpa using ht
          have HTM := Lib.hid ht
          clear ht
          have RA := Lib.hid (heap_alloc_new w1 (.cells #[.string asker, .int .i64 (max (now + 10) u), .int .i64 (t + 1)] 25))
          have HB5 := Lib.hid (HB1.out.alloc HB1.out.size (.cells #[.string asker, .int .i64 (max (now + 10) u), .int .i64 (t + 1)] 25))
          have HR5 := Lib.hid ((Below.heap_alloc w1 (.cells #[.string asker, .int .i64 (max (now + 10) u), .int .i64 (t + 1)] 25) _ (lt_of_block HR2b.out)).trans HR2b.out)
          have HNE : Hid (w.heap.size + 1 ≠ w1.heap.size) := by have := lt_of_block HR2b.out; show _ ≠ _; omega
          go_wp2_with fail
          clear x0 x1 x2 HTH
          generalize w1.alloc (.cells #[.string asker, .int .i64 (max (now + 10) u), .int .i64 (t + 1)] 25) = W at *
          generalize w1.heap.size = D at *
          have ⟨z0, z1, z2, z3, z4, z5, z6⟩ := row3_steps HR5.out (.string asker) (.int .i64 (max (now + 10) u)) (.int .i64 (t + 1))
          have HZ6 := Lib.hid z6
          have RD : (((W.setCell ⟨w.heap.size + 1, 0, none⟩ (.string asker)).setCell ⟨w.heap.size + 1, 1, none⟩ (.int .i64 (max (now + 10) u))).setCell ⟨w.heap.size + 1, 2, none⟩ (.int .i64 (t + 1))).heap[D]? = some (.cells #[.string asker, .int .i64 (max (now + 10) u), .int .i64 (t + 1)] 25 (0, 0)) := by
            rw [heap_setCell_other _ _ _ _ (fun e => HNE.out e.symm), heap_setCell_other _ _ _ _ (fun e => HNE.out e.symm), heap_setCell_other _ _ _ _ (fun e => HNE.out e.symm)]
            exact RA.out
          have ⟨y0, y1, y2⟩ := ls_cells RA.out
          have ⟨q0, q1, q2⟩ := ls_cells RD
          clear z6 RD
          go_region
          go_wp2_with fail
          (try simp only [Exit.inBlock, Exit.then])
          refine bodyPost_ret (results_row_tmpJ (p := 8) (q := 9) (r := 10) (ty := 25) rfl _ _ (w.heap.size + 1) 25 #[.string asker, .int .i64 (max (now + 10) u), .int .i64 (t + 1)] (0, 0) _ rfl HZ6.out Tryd.underlying25 rfl (HI3.out _ _ _)) rfl ?_
          exact ⟨Below.drew (below_setCells (Nat.le_succ _) [.string asker, .int .i64 (max (now + 10) u), .int .i64 (t + 1)] 0 HB5.out), .inl ⟨HN.out, HNB.out, HTM.out, rfl⟩⟩
end Go.Proofs.YtokckcmkbnhhhaaDoor
