/- LineBack: for all packets, strings, places and bytes: packets are decoded unchanged, and a packet with one changed byte is rejected; the call answers true. The card ties the listed variables to the program's text; no other condition. -/
import Derived.Test.YtinjnclpiiohcaaDoorRows
import Derived.WalkKit
import Derived.ProofKit
import Derived.OpenShut
import Derived.ShutString
import Derived.ChangeOld
import Derived.Below
import Derived.SizedLaws
import Derived.Test.YtinjnclpiiohcaaDoorCards
import Derived.Test.YtinjnclpiiohcaaDoorTie
import Derived.Deep.DeepHandedRow
import Derived.Lib.LaidTab
import Derived.Test.YtinjnclpiiohcaaDoorLineBackW
import Derived.Test.YtinjnclpiiohcaaDoorSlices
import Derived.ChangeArms
namespace Go.Proofs.YtinjnclpiiohcaaDoor.lineBack
open Go.ChangeShapes Go.WideShapes Go.ChangeAt Go.RowKit
open Go.ChangeMaps (open_string shut_string)
open Go.ChangeShapes Go.WideShapes Go.ChangeAt
set_option linter.unusedVariables false
theorem own : ownKnob Tryd.prog.godebug = none := by kernel_rfl
theorem laidOut : laidOutB Tryd.prog = true := by kernel_rfl
theorem cells_pkt : Tryd.prog.cellsOf 47 = 3 := by kernel_rfl
set_option maxRecDepth 100000 in
theorem read_pkt {H : Type} {enc : TypeId × Value → H} {W : World} {base : Nat} {sp : Nat → Bool} {held : Bool} (fuel : Nat) (cs : List Value) (x : DataW H × List MemPlace) (h : DataW.trod enc Tryd.prog W base sp held fuel 47 cs = some x) : ∃ (a b : Int) (s : ByteArray), cs = [.int .i64 a, .int .i64 b, .string s] ∧ s.size ≤ 9223372036854775807 := by
  obtain ⟨hl, hf⟩ := trod_fields Tryd.underlying47 (by kernel_rfl) cells_pkt h
  obtain ⟨u0, m0, y0, e0, t0⟩ := hf 0 _ rfl
  obtain ⟨u1, m1, y1, e1, t1⟩ := hf 1 _ rfl
  obtain ⟨u2, m2, y2, e2, t2⟩ := hf 2 _ rfl
  obtain ⟨a, ha, _, _⟩ := DataW.trod_int Tryd.underlying3 t0
  obtain ⟨b, hb, _, _⟩ := DataW.trod_int Tryd.underlying3 t1
  obtain ⟨s, hs, _, hz⟩ := DataW.trod_string Tryd.underlying9 t2
  simp only [List.cons.injEq, and_true] at ha hb hs
  subst ha hb hs
  match cs, hl, e0, e1, e2 with
  | [c0, c1, c2], _, e0, e1, e2 =>
    simp at e0 e1 e2
    subst e0 e1 e2
    exact ⟨a, b, s, rfl, hz⟩
set_option maxRecDepth 100000 in
theorem walk (H : Type) (enc : TypeId × Value → H) (W : World) (base : Nat) (v0 : Value) (d0 : DataW H) (p0 : List MemPlace) (v1 : Value) (d1 : DataW H) (p1 : List MemPlace) (v2 : Value) (d2 : DataW H) (p2 : List MemPlace) (v3 : Value) (d3 : DataW H) (p3 : List MemPlace) (o0 : Value.okWide Tryd.prog W .any base 47 v0) (h0 : DataW.Trod enc Tryd.prog W 0 (fun _ => true) true 47 v0 d0 p0) (o1 : Value.okWide Tryd.prog W .any base 9 v1) (h1 : DataW.Trod enc Tryd.prog W 0 (fun _ => true) true 9 v1 d1 p1) (o2 : Value.okWide Tryd.prog W .any base 3 v2) (h2 : DataW.Trod enc Tryd.prog W 0 (fun _ => true) true 3 v2 d2 p2) (o3 : Value.okWide Tryd.prog W .any base 5 v3) (h3 : DataW.Trod enc Tryd.prog W 0 (fun _ => true) true 5 v3 d3 p3) (hsz : (DataW.weightsEach Tryd.prog [47, 9, 3, 5] [d0, d1, d2, d3]).all (· ≤ reachBytes) = true) (hL : laidMetH Tryd.prog Rows.lineBackRow.laid W) (hshape : W.ShapedOpen Tryd.prog) :
    Calls Tryd.prog 5 #[v0, v1, v2, v3] W fun e W' => e = .returned (.bool true) ∧ Below W.heap.size W W' := by
  obtain ⟨cs, rfl, _⟩ := okWide_struct Tryd.underlying47 o0
  obtain ⟨fuel, hf⟩ := h0
  obtain ⟨a, b, t, hcs, ht⟩ := read_pkt _ _ _ hf
  have e2 : cs.toList = [.int .i64 a, .int .i64 b, .string t] := hcs
  rw [← Array.toArray_toList (xs := cs), e2]
  obtain ⟨s, rfl, rfl, rfl, ws⟩ := open_string Tryd.underlying9 o1 h1
  obtain ⟨ps, rfl, rfl, rfl, wp⟩ := open_int Tryd.underlying3 o2 h2
  obtain ⟨x, rfl, rfl, rfl, wx⟩ := open_int Tryd.underlying5 o3 h3
  have hx : 0 ≤ x ∧ x ≤ 255 := by simpa [Lit.wf, IntKind.min, IntKind.max, IntKind.signed, IntKind.bits] using wx
  obtain ⟨bi, rfl⟩ : ∃ bi : Nat, x = (bi : Int) := ⟨x.toNat, by omega⟩
  have hbi : bi < 256 := by omega
  have z1 := sized_string hsz (j := 1) rfl rfl
  rw [Array.length_toList] at z1
  unfold reachBytes at z1
  exact lineBack_any a b t s ps bi W ht (Nat.le_trans z1 (by decide)) hbi (Tryd.laysM155.s1_3 W hshape)
set_option maxRecDepth 100000 in
mutual
def laidCells : DataW Unit → List Value
  | .lit (.int k n) => [.int k n]
  | .lit (.bool b) => [.bool b]
  | .agg parts => laidCellsAll parts
  | _ => []
def laidCellsAll : List (DataW Unit) → List Value
  | [] => []
  | d :: r => laidCells d ++ laidCellsAll r
end
def laidObj (d : DataW Unit) : Obj → Obj
  | .cells _ t frozen => .cells (laidCells d).toArray t frozen
  | o => o
noncomputable def laidPut (h : Array Obj) (p : String × DataW Unit) : Array Obj := match Tryd.prog.globalNamed p.1 with
  | some g => h.modify g (laidObj p.2)
  | none => h
noncomputable def laidWorld (os : Os) : World :=
  { World.holding Tryd.prog os ⟨#[], #[], []⟩ with heap := List.foldl laidPut (World.holding Tryd.prog os ⟨#[], #[], []⟩).heap Rows.lineBackRow.laid }
theorem laid_met (os : Os) : laidMet Tryd.prog Rows.lineBackRow.laid ((laidWorld os).forCall (fun _ _ => 0) ⟨#[], #[.agg #[.int .i64 0, .int .i64 0, .string ⟨#[]⟩], .string ⟨#[]⟩, .int .i64 0, .int .u8 0], []⟩).memory :=
  laidMet_of_run' 8 (by kernel_rfl) (by kernel_rfl)
theorem reads (os : Os) {H : Type} (enc : TypeId × Value → H) : ∃ places, DataW.whole enc Tryd.prog ((laidWorld os).forCall (fun _ _ => 0) ⟨#[], #[.agg #[.int .i64 0, .int .i64 0, .string ⟨#[]⟩], .string ⟨#[]⟩, .int .i64 0, .int .u8 0], []⟩).memory Tryd.f5.params.toList Rows.lineBackSpec.vars false (#[.agg #[.int .i64 0, .int .i64 0, .string ⟨#[]⟩], .string ⟨#[]⟩, .int .i64 0, .int .u8 0] : Array Value).toList 8 = some ([.agg [.lit (.int .i64 0), .lit (.int .i64 0), .lit (.string [])], .lit (.string []), .lit (.int .i64 0), .lit (.int .u8 0)], [], places) :=
  ⟨[], by kernel_rfl⟩
set_option maxRecDepth 100000 in
theorem lifted (os : Os) (started : os.Started) (H : Type) (enc : TypeId × Value → H) (F : Stop.Interp) :
    ReturnsInHanded {} Tryd.checked os 5 .any ((OpenSpec.ofChange Rows.lineBackSpec).preRow enc Tryd.prog Tryd.f5 Rows.lineBackRow.domain false Rows.lineBackRow.laid) (((OpenSpec.ofChange Rows.lineBackSpec).at F).post enc Tryd.prog Tryd.f5 false true false false) := by
  obtain ⟨places, hx⟩ := reads os enc
  refine returnsInHanded_of_row (C := Tryd.checked) (s := (OpenSpec.ofChange Rows.lineBackSpec)) own started (by kernel_rfl) Tryd.func5
    (witness_row_at (enc := enc) (C := Tryd.checked) false (laidWorld os) #[.agg #[.int .i64 0, .int .i64 0, .string ⟨#[]⟩], .string ⟨#[]⟩, .int .i64 0, .int .u8 0] rfl (by kernel_rfl) (by kernel_rfl) (by kernel_rfl)
      (OpenSpec.preRow_of_cond 8 hx (by kernel_rfl) (fun k hk => by cases hk) (by kernel_rfl) (laid_met os))) ?_
  intro W base args ds gs before hval0 hW _ hcond0 hsz0 hL hshape _
  have hval : ∀ (j : Nat) t v, Tryd.f5.params[j]? = some t → args[j]? = some v → Value.okWide Tryd.prog W .any base t v := hval0
  have hsz : (DataW.weightsEach Tryd.prog (Tryd.f5.params.toList ++ Rows.lineBackSpec.plain.varTypes Tryd.prog) (ds ++ gs)).all (· ≤ reachBytes) = true := hsz0
  have hW' := hW
  obtain ⟨p, q, hA0, hV, rfl, hfz, hnd⟩ := hW
  have hA : DataW.TrodAll enc Tryd.prog W 0 (fun _ => true) true Tryd.f5.params.toList args.toList ds p := hA0
  rw [Tryd.params5] at hA hval hsz
  obtain ⟨v0, vs0, d0, ds0, p0, q0, hargs, rfl, rfl, h0, r0⟩ := trodAll_cons hA
  obtain ⟨v1, vs1, d1, ds1, p1, q1, rfl, rfl, rfl, h1, r1⟩ := trodAll_cons r0
  obtain ⟨v2, vs2, d2, ds2, p2, q2, rfl, rfl, rfl, h2, r2⟩ := trodAll_cons r1
  obtain ⟨v3, vs3, d3, ds3, p3, q3, rfl, rfl, rfl, h3, r3⟩ := trodAll_cons r2
  obtain ⟨rfl, rfl, rfl⟩ := trodAll_nil r3
  obtain rfl : args = #[v0, v1, v2, v3] := by cases args; simp_all
  obtain ⟨rfl, rfl⟩ := trodVars_none hV
  have k0 := h0
  have lt0 : ∀ x ∈ p0, x.block < W.heap.size := by obtain ⟨m, hm⟩ := k0; exact DataW.trod_lt m _ _ _ hm
  have k1 := h1
  have lt1 : ∀ x ∈ p1, x.block < W.heap.size := by obtain ⟨m, hm⟩ := k1; exact DataW.trod_lt m _ _ _ hm
  have k2 := h2
  have lt2 : ∀ x ∈ p2, x.block < W.heap.size := by obtain ⟨m, hm⟩ := k2; exact DataW.trod_lt m _ _ _ hm
  have k3 := h3
  have lt3 : ∀ x ∈ p3, x.block < W.heap.size := by obtain ⟨m, hm⟩ := k3; exact DataW.trod_lt m _ _ _ hm
  refine (walk H enc W base v0 d0 p0 v1 d1 p1 v2 d2 p2 v3 d3 p3 (hval 0 47 v0 rfl rfl) h0 (hval 1 9 v1 rfl rfl) h1 (hval 2 3 v2 rfl rfl) h2 (hval 3 5 v3 rfl rfl) h3 hsz hL hshape).mono fun e W' ⟨he, bel⟩ => ?_
  subst he
  exact ⟨_, rfl, _, _, _, [], _, [], hW', trodAll_mk1 (shut_bool Tryd.underlying4 _), (trodAll_cons_mk (Below.trod laidOut (by kernel_rfl) (of_decide_eq_true (by kernel_rfl)) k0 bel lt0) (trodAll_cons_mk (Below.trod laidOut (by kernel_rfl) (of_decide_eq_true (by kernel_rfl)) k1 bel lt1) (trodAll_cons_mk (Below.trod laidOut (by kernel_rfl) (of_decide_eq_true (by kernel_rfl)) k2 bel lt2) (trodAll_cons_mk (Below.trod laidOut (by kernel_rfl) (of_decide_eq_true (by kernel_rfl)) k3 bel lt3) trodAll_mk0)))), rfl, bel.frame _, fun h => by cases h⟩
theorem said : Rows.LineBackSaid :=
  OpenClaim.holds_of_cond 5 Tryd.f5 rfl rfl rfl rfl rfl rfl rfl ⟨rfl, rfl, rfl, rfl, rfl⟩ rfl rfl rfl rfl rfl (by kernel_rfl) Tryd.func5 (by kernel_rfl)
    (of_decide_eq_true (by kernel_rfl)) (by unfold Func.isWrapper; first | (rw [if_pos (by decide +kernel)]; kernel_rfl) | (rw [if_neg (by decide +kernel)]; exact ⟨rfl, rfl⟩))
    (fun os started H enc _ F => by rw [OpenClaim.pre_eq_preRow]; exact lifted os started H enc F)
theorem plain (f : FuncId) (fn : Func) (hf : Tryd.pinned.checked.prog.funcNamed "lumberroom/lumkeep.LineBack" = some f) (hfn : Tryd.pinned.checked.prog.funcs[f]? = some fn) :
    false = Tryd.pinned.checked.prog.looks [] ∧ ∀ (j : Nat) t, fn.params[j]? = some t → Tryd.pinned.checked.prog.wantsStandIn t = false := by
  obtain rfl : f = 5 := Option.some.inj ((show Tryd.prog.funcNamed "lumberroom/lumkeep.LineBack" = some 5 by kernel_rfl).symm.trans hf) |>.symm
  obtain rfl : fn = Tryd.f5 := (Option.some.inj (Tryd.func5.symm.trans hfn)).symm
  refine ⟨by kernel_rfl, fun j t ht => ?_⟩
  rw [Tryd.params5] at ht
  have hm : t ∈ [47, 9, 3, 5] := by simpa using Array.mem_of_getElem? ht
  have hall : ([47, 9, 3, 5].all fun u => !Tryd.prog.wantsStandIn u) = true := by kernel_rfl
  exact (show Tryd.prog.wantsStandIn t = false by simpa using List.all_eq_true.1 hall t hm)
theorem proved : Rows.LineBackCardSaid :=
  Claim7.holds_tied_plain_at .later [] _ _ _ _ said (fun _ h => by cases h) (by kernel_rfl) (fun _ h => by cases h) lineBack_row_tie rfl ⟨rfl, rfl⟩ (by kernel_rfl) rfl plain (by kernel_rfl)
end Go.Proofs.YtinjnclpiiohcaaDoor.lineBack
