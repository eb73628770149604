/- NumFree: for all numbers, integers, floats and strings: no encoding is a prefix of another encoding of the same function; the call answers true. The card ties the listed variables to the program's text; no other condition. -/
import Derived.Test.YtiokodjlijaddaaDoorRows
import Derived.WalkKit
import Derived.ProofKit
import Derived.OpenShut
import Derived.ShutString
import Derived.ChangeOld
import Derived.Below
import Derived.SizedLaws
import Derived.Test.YtiokodjlijaddaaDoorCards
import Derived.Test.YtiokodjlijaddaaDoorTie
import Derived.Deep.DeepHandedRow
import Derived.Lib.LaidTab
import Derived.Test.YtiokodjlijaddaaDoorNumFreeW
namespace Go.Proofs.YtiokodjlijaddaaDoor.numFree
open Go.ChangeShapes Go.WideShapes Go.ChangeAt Go.RowKit
open Go.ChangeMaps (open_string shut_string)
set_option linter.unusedVariables false
theorem own : ownKnob Tryd.prog.godebug = none := by kernel_rfl
theorem laidOut : laidOutB Tryd.prog = true := by kernel_rfl
set_option maxRecDepth 100000 in
theorem walk (H : Type) (enc : TypeId × Value → H) (W : World) (base : Nat) (v0 : Value) (d0 : DataW H) (p0 : List MemPlace) (v1 : Value) (d1 : DataW H) (p1 : List MemPlace) (v2 : Value) (d2 : DataW H) (p2 : List MemPlace) (v3 : Value) (d3 : DataW H) (p3 : List MemPlace) (v4 : Value) (d4 : DataW H) (p4 : List MemPlace) (v5 : Value) (d5 : DataW H) (p5 : List MemPlace) (v6 : Value) (d6 : DataW H) (p6 : List MemPlace) (v7 : Value) (d7 : DataW H) (p7 : List MemPlace) (o0 : Value.okWide Tryd.prog W .any base 35 v0) (h0 : DataW.Trod enc Tryd.prog W 0 (fun _ => true) true 35 v0 d0 p0) (o1 : Value.okWide Tryd.prog W .any base 35 v1) (h1 : DataW.Trod enc Tryd.prog W 0 (fun _ => true) true 35 v1 d1 p1) (o2 : Value.okWide Tryd.prog W .any base 3 v2) (h2 : DataW.Trod enc Tryd.prog W 0 (fun _ => true) true 3 v2 d2 p2) (o3 : Value.okWide Tryd.prog W .any base 3 v3) (h3 : DataW.Trod enc Tryd.prog W 0 (fun _ => true) true 3 v3 d3 p3) (o4 : Value.okWide Tryd.prog W .any base 40 v4) (h4 : DataW.Trod enc Tryd.prog W 0 (fun _ => true) true 40 v4 d4 p4) (o5 : Value.okWide Tryd.prog W .any base 40 v5) (h5 : DataW.Trod enc Tryd.prog W 0 (fun _ => true) true 40 v5 d5 p5) (o6 : Value.okWide Tryd.prog W .any base 9 v6) (h6 : DataW.Trod enc Tryd.prog W 0 (fun _ => true) true 9 v6 d6 p6) (o7 : Value.okWide Tryd.prog W .any base 9 v7) (h7 : DataW.Trod enc Tryd.prog W 0 (fun _ => true) true 9 v7 d7 p7) (hsz : (DataW.weightsEach Tryd.prog [35, 35, 3, 3, 40, 40, 9, 9] [d0, d1, d2, d3, d4, d5, d6, d7]).all (· ≤ reachBytes) = true) (hL : laidMetH Tryd.prog Rows.numFreeRow.laid W) (hshape : W.ShapedOpen Tryd.prog) :
    Calls Tryd.prog 5 #[v0, v1, v2, v3, v4, v5, v6, v7] W fun e W' => e = .returned (.bool true) ∧ Below W.heap.size W W' := by
  obtain ⟨a', rfl, rfl, rfl, wa⟩ := open_int Tryd.underlying35 o0 h0
  obtain ⟨b', rfl, rfl, rfl, wb⟩ := open_int Tryd.underlying35 o1 h1
  obtain ⟨i, rfl, rfl, rfl, wi⟩ := open_int Tryd.underlying3 o2 h2
  obtain ⟨j, rfl, rfl, rfl, wj⟩ := open_int Tryd.underlying3 o3 h3
  obtain ⟨x, rfl, rfl, rfl, hx⟩ := open_float Tryd.underlying40 o4 h4
  obtain ⟨y, rfl, rfl, rfl, hy⟩ := open_float Tryd.underlying40 o5 h5
  obtain ⟨s, rfl, rfl, rfl, ws⟩ := open_string Tryd.underlying9 o6 h6
  obtain ⟨t, rfl, rfl, rfl, wt⟩ := open_string Tryd.underlying9 o7 h7
  obtain ⟨a, rfl, ha⟩ := u64Of wa
  obtain ⟨b, rfl, hb⟩ := u64Of wb
  simp only [Lit.wf, decide_eq_true_eq] at hx hy
  obtain ⟨m, hm⟩ := Tryd.laysM155.s1_3 W hshape
  unfold maxLen at ws wt
  exact numFree_any a b i j m x y s t W ha hb (i64Of wi) (i64Of wj) (by omega) (by omega) ws wt hm
set_option maxRecDepth 100000 in
mutual
def laidCells : DataW Unit → List Value
  | .lit (.int k n) => [.int k n]
  | .lit (.bool b) => [.bool b]
  | .agg parts => laidCellsAll parts
  | _ => []
def laidCellsAll : List (DataW Unit) → List Value
  | [] => []
  | d :: r => laidCells d ++ laidCellsAll r
end
def laidObj (d : DataW Unit) : Obj → Obj
  | .cells _ t frozen => .cells (laidCells d).toArray t frozen
  | o => o
noncomputable def laidPut (h : Array Obj) (p : String × DataW Unit) : Array Obj := match Tryd.prog.globalNamed p.1 with
  | some g => h.modify g (laidObj p.2)
  | none => h
noncomputable def laidWorld (os : Os) : World :=
  { World.holding Tryd.prog os ⟨#[], #[], []⟩ with heap := List.foldl laidPut (World.holding Tryd.prog os ⟨#[], #[], []⟩).heap Rows.numFreeRow.laid }
theorem laid_met (os : Os) : laidMet Tryd.prog Rows.numFreeRow.laid ((laidWorld os).forCall (fun _ _ => 0) ⟨#[], #[.int .u64 0, .int .u64 0, .int .i64 0, .int .i64 0, .float .f64 0, .float .f64 0, .string ⟨#[]⟩, .string ⟨#[]⟩], []⟩).memory :=
  laidMet_of_run' 8 (by kernel_rfl) (by kernel_rfl)
theorem reads (os : Os) {H : Type} (enc : TypeId × Value → H) : ∃ places, DataW.whole enc Tryd.prog ((laidWorld os).forCall (fun _ _ => 0) ⟨#[], #[.int .u64 0, .int .u64 0, .int .i64 0, .int .i64 0, .float .f64 0, .float .f64 0, .string ⟨#[]⟩, .string ⟨#[]⟩], []⟩).memory Tryd.f5.params.toList Rows.numFreeSpec.vars false (#[.int .u64 0, .int .u64 0, .int .i64 0, .int .i64 0, .float .f64 0, .float .f64 0, .string ⟨#[]⟩, .string ⟨#[]⟩] : Array Value).toList 8 = some ([.lit (.int .u64 0), .lit (.int .u64 0), .lit (.int .i64 0), .lit (.int .i64 0), .lit (.float .f64 0), .lit (.float .f64 0), .lit (.string []), .lit (.string [])], [], places) :=
  ⟨[], by kernel_rfl⟩
set_option maxRecDepth 100000 in
theorem lifted (os : Os) (started : os.Started) (H : Type) (enc : TypeId × Value → H) (F : Stop.Interp) :
    ReturnsInHanded {} Tryd.checked os 5 .any ((OpenSpec.ofChange Rows.numFreeSpec).preRow enc Tryd.prog Tryd.f5 Rows.numFreeRow.domain false Rows.numFreeRow.laid) (((OpenSpec.ofChange Rows.numFreeSpec).at F).post enc Tryd.prog Tryd.f5 false true false false) := by
  obtain ⟨places, hx⟩ := reads os enc
  refine returnsInHanded_of_row (C := Tryd.checked) (s := (OpenSpec.ofChange Rows.numFreeSpec)) own started (by kernel_rfl) Tryd.func5
    (witness_row_at (enc := enc) (C := Tryd.checked) false (laidWorld os) #[.int .u64 0, .int .u64 0, .int .i64 0, .int .i64 0, .float .f64 0, .float .f64 0, .string ⟨#[]⟩, .string ⟨#[]⟩] rfl (by kernel_rfl) (by kernel_rfl) (by kernel_rfl)
      (OpenSpec.preRow_of_cond 8 hx (by kernel_rfl) (fun k hk => by cases hk) (by kernel_rfl) (laid_met os))) ?_
  intro W base args ds gs before hval0 hW _ hcond0 hsz0 hL hshape _
  have hval : ∀ (j : Nat) t v, Tryd.f5.params[j]? = some t → args[j]? = some v → Value.okWide Tryd.prog W .any base t v := hval0
  have hsz : (DataW.weightsEach Tryd.prog (Tryd.f5.params.toList ++ Rows.numFreeSpec.plain.varTypes Tryd.prog) (ds ++ gs)).all (· ≤ reachBytes) = true := hsz0
  have hW' := hW
  obtain ⟨p, q, hA0, hV, rfl, hfz, hnd⟩ := hW
  have hA : DataW.TrodAll enc Tryd.prog W 0 (fun _ => true) true Tryd.f5.params.toList args.toList ds p := hA0
  rw [Tryd.params5] at hA hval hsz
  obtain ⟨v0, vs0, d0, ds0, p0, q0, hargs, rfl, rfl, h0, r0⟩ := trodAll_cons hA
  obtain ⟨v1, vs1, d1, ds1, p1, q1, rfl, rfl, rfl, h1, r1⟩ := trodAll_cons r0
  obtain ⟨v2, vs2, d2, ds2, p2, q2, rfl, rfl, rfl, h2, r2⟩ := trodAll_cons r1
  obtain ⟨v3, vs3, d3, ds3, p3, q3, rfl, rfl, rfl, h3, r3⟩ := trodAll_cons r2
  obtain ⟨v4, vs4, d4, ds4, p4, q4, rfl, rfl, rfl, h4, r4⟩ := trodAll_cons r3
  obtain ⟨v5, vs5, d5, ds5, p5, q5, rfl, rfl, rfl, h5, r5⟩ := trodAll_cons r4
  obtain ⟨v6, vs6, d6, ds6, p6, q6, rfl, rfl, rfl, h6, r6⟩ := trodAll_cons r5
  obtain ⟨v7, vs7, d7, ds7, p7, q7, rfl, rfl, rfl, h7, r7⟩ := trodAll_cons r6
  obtain ⟨rfl, rfl, rfl⟩ := trodAll_nil r7
  obtain rfl : args = #[v0, v1, v2, v3, v4, v5, v6, v7] := by cases args; simp_all
  obtain ⟨rfl, rfl⟩ := trodVars_none hV
  have k0 := h0
  have lt0 : ∀ x ∈ p0, x.block < W.heap.size := by obtain ⟨m, hm⟩ := k0; exact DataW.trod_lt m _ _ _ hm
  have k1 := h1
  have lt1 : ∀ x ∈ p1, x.block < W.heap.size := by obtain ⟨m, hm⟩ := k1; exact DataW.trod_lt m _ _ _ hm
  have k2 := h2
  have lt2 : ∀ x ∈ p2, x.block < W.heap.size := by obtain ⟨m, hm⟩ := k2; exact DataW.trod_lt m _ _ _ hm
  have k3 := h3
  have lt3 : ∀ x ∈ p3, x.block < W.heap.size := by obtain ⟨m, hm⟩ := k3; exact DataW.trod_lt m _ _ _ hm
  have k4 := h4
  have lt4 : ∀ x ∈ p4, x.block < W.heap.size := by obtain ⟨m, hm⟩ := k4; exact DataW.trod_lt m _ _ _ hm
  have k5 := h5
  have lt5 : ∀ x ∈ p5, x.block < W.heap.size := by obtain ⟨m, hm⟩ := k5; exact DataW.trod_lt m _ _ _ hm
  have k6 := h6
  have lt6 : ∀ x ∈ p6, x.block < W.heap.size := by obtain ⟨m, hm⟩ := k6; exact DataW.trod_lt m _ _ _ hm
  have k7 := h7
  have lt7 : ∀ x ∈ p7, x.block < W.heap.size := by obtain ⟨m, hm⟩ := k7; exact DataW.trod_lt m _ _ _ hm
  refine (walk H enc W base v0 d0 p0 v1 d1 p1 v2 d2 p2 v3 d3 p3 v4 d4 p4 v5 d5 p5 v6 d6 p6 v7 d7 p7 (hval 0 35 v0 rfl rfl) h0 (hval 1 35 v1 rfl rfl) h1 (hval 2 3 v2 rfl rfl) h2 (hval 3 3 v3 rfl rfl) h3 (hval 4 40 v4 rfl rfl) h4 (hval 5 40 v5 rfl rfl) h5 (hval 6 9 v6 rfl rfl) h6 (hval 7 9 v7 rfl rfl) h7 hsz hL hshape).mono fun e W' ⟨he, bel⟩ => ?_
  subst he
  exact ⟨_, rfl, _, _, _, [], _, [], hW', trodAll_mk1 (shut_bool Tryd.underlying4 _), (trodAll_cons_mk (Below.trod laidOut (by kernel_rfl) (of_decide_eq_true (by kernel_rfl)) k0 bel lt0) (trodAll_cons_mk (Below.trod laidOut (by kernel_rfl) (of_decide_eq_true (by kernel_rfl)) k1 bel lt1) (trodAll_cons_mk (Below.trod laidOut (by kernel_rfl) (of_decide_eq_true (by kernel_rfl)) k2 bel lt2) (trodAll_cons_mk (Below.trod laidOut (by kernel_rfl) (of_decide_eq_true (by kernel_rfl)) k3 bel lt3) (trodAll_cons_mk (Below.trod laidOut (by kernel_rfl) (of_decide_eq_true (by kernel_rfl)) k4 bel lt4) (trodAll_cons_mk (Below.trod laidOut (by kernel_rfl) (of_decide_eq_true (by kernel_rfl)) k5 bel lt5) (trodAll_cons_mk (Below.trod laidOut (by kernel_rfl) (of_decide_eq_true (by kernel_rfl)) k6 bel lt6) (trodAll_cons_mk (Below.trod laidOut (by kernel_rfl) (of_decide_eq_true (by kernel_rfl)) k7 bel lt7) trodAll_mk0)))))))), rfl, bel.frame _, fun h => by cases h⟩
theorem said : Rows.NumFreeSaid :=
  OpenClaim.holds_of_cond 5 Tryd.f5 rfl rfl rfl rfl rfl rfl rfl ⟨rfl, rfl, rfl, rfl, rfl⟩ rfl rfl rfl rfl rfl (by kernel_rfl) Tryd.func5 (by kernel_rfl)
    (of_decide_eq_true (by kernel_rfl)) (by unfold Func.isWrapper; first | (rw [if_pos (by decide +kernel)]; kernel_rfl) | (rw [if_neg (by decide +kernel)]; exact ⟨rfl, rfl⟩))
    (fun os started H enc _ F => by rw [OpenClaim.pre_eq_preRow]; exact lifted os started H enc F)
theorem plain (f : FuncId) (fn : Func) (hf : Tryd.pinned.checked.prog.funcNamed "lumberroom/lumkeep.NumFree" = some f) (hfn : Tryd.pinned.checked.prog.funcs[f]? = some fn) :
    false = Tryd.pinned.checked.prog.looks [] ∧ ∀ (j : Nat) t, fn.params[j]? = some t → Tryd.pinned.checked.prog.wantsStandIn t = false := by
  obtain rfl : f = 5 := Option.some.inj ((show Tryd.prog.funcNamed "lumberroom/lumkeep.NumFree" = some 5 by kernel_rfl).symm.trans hf) |>.symm
  obtain rfl : fn = Tryd.f5 := (Option.some.inj (Tryd.func5.symm.trans hfn)).symm
  refine ⟨by kernel_rfl, fun j t ht => ?_⟩
  rw [Tryd.params5] at ht
  have hm : t ∈ [35, 35, 3, 3, 40, 40, 9, 9] := by simpa using Array.mem_of_getElem? ht
  have hall : ([35, 35, 3, 3, 40, 40, 9, 9].all fun u => !Tryd.prog.wantsStandIn u) = true := by kernel_rfl
  exact (show Tryd.prog.wantsStandIn t = false by simpa using List.all_eq_true.1 hall t hm)
theorem proved : Rows.NumFreeCardSaid :=
  Claim7.holds_tied_plain_at .later [] _ _ _ _ said (fun _ h => by cases h) (by kernel_rfl) (fun _ h => by cases h) numFree_row_tie rfl ⟨rfl, rfl⟩ (by kernel_rfl) rfl plain (by kernel_rfl)
end Go.Proofs.YtiokodjlijaddaaDoor.numFree
