/- FetchOwn: for every two lists of blobs and every list of IDs: what is handed to Plan and Into stays, with the memory behind it; answers are new memory; the call answers true. The card ties the listed variables to the program's text; no other condition. -/
import Derived.Test.YtbfoonfbhebhfaaGreatDoorRows
import Derived.WalkKit
import Derived.ProofKit
import Derived.OpenShut
import Derived.ShutString
import Derived.ChangeOld
import Derived.Below
import Derived.SizedLaws
import Derived.Test.YtbfoonfbhebhfaaGreatDoorCards
import Derived.Test.YtbfoonfbhebhfaaGreatDoorTie
import Derived.Deep.DeepHandedRow
import Derived.Lib.LaidTab
import Derived.Test.YtbfoonfbhebhfaaGreatDoorKGpL
import Derived.Test.YtbfoonfbhebhfaaGreatDoorKGoP
import Derived.Test.YtbfoonfbhebhfaaGreatDoorKGpQ
import Derived.Test.YtbfoonfbhebhfaaGreatDoorKGnC
namespace Go.Proofs.YtbfoonfbhebhfaaGreatDoor.fetchOwn
open Go.ChangeShapes Go.WideShapes Go.ChangeAt Go.RowKit
open Go.ChangeMaps (open_string shut_string)
set_option linter.unusedVariables false
theorem own : ownKnob Tryz.prog.godebug = none := by kernel_rfl
theorem laidOut : laidOutB Tryz.prog = true := by kernel_rfl
set_option maxRecDepth 100000 in
theorem walk (H : Type) (enc : TypeId × Value → H) (W : World) (base : Nat) (v0 : Value) (d0 : DataW H) (p0 : List MemPlace) (v1 : Value) (d1 : DataW H) (p1 : List MemPlace) (v2 : Value) (d2 : DataW H) (p2 : List MemPlace) (o0 : Value.okWide Tryz.prog W .any base 28 v0) (h0 : DataW.Trod enc Tryz.prog W 0 (fun _ => true) true 28 v0 d0 p0) (o1 : Value.okWide Tryz.prog W .any base 28 v1) (h1 : DataW.Trod enc Tryz.prog W 0 (fun _ => true) true 28 v1 d1 p1) (o2 : Value.okWide Tryz.prog W .any base 57 v2) (h2 : DataW.Trod enc Tryz.prog W 0 (fun _ => true) true 57 v2 d2 p2) (hsz : (DataW.weightsEach Tryz.prog [28, 28, 57] [d0, d1, d2]).all (· ≤ reachBytes) = true) (hL : laidMetH Tryz.prog Rows.fetchOwnRow.laid W) (hshape : W.ShapedOpen Tryz.prog) :
  Calls Tryz.prog 10 #[v0, v1, v2] W fun e W' => e = .returned (.bool true) ∧ Below W.heap.size W W' := by
 obtain ⟨aa, la, ca, rfl, _, _, ha4⟩ := open_blobs o0 h0
 obtain ⟨ab, lb, cb, rfl, _, _, hb4⟩ := open_blobs o1 h1
 obtain ⟨ar, lr, cr, rfl, _, _, hr4⟩ := open_idsT o2 h2
 have hla := len_wtF (n := 24) Tryz.underlying28 (by kernel_rfl) (slice_lenF Tryz.underlying28 h0) (fun q hq => by
  have := List.all_eq_true.1 hsz _ (DataW.weights_mem_each (j := 0) rfl rfl q hq)
  simpa using this)
 have hlb := len_wtF (n := 24) Tryz.underlying28 (by kernel_rfl) (slice_lenF Tryz.underlying28 h1) (fun q hq => by
  have := List.all_eq_true.1 hsz _ (DataW.weights_mem_each (j := 1) rfl rfl q hq)
  simpa using this)
 have hlr := len_wtF (n := 8) Tryz.underlying57 (by kernel_rfl) (slice_lenF Tryz.underlying57 h2) (fun q hq => by
  have := List.all_eq_true.1 hsz _ (DataW.weights_mem_each (j := 2) rfl rfl q hq)
  simpa using this)
 rw [reach_is] at hla hlb hlr
 obtain ⟨m, hm⟩ := maxl_of hshape
 exact fetchOwn_any aa ab ar ca cb cr la lb lr m W ha4 hb4 hr4 (by omega) (by omega) (by omega) hm (tabs_of hL) ⟨m, hm⟩
set_option maxRecDepth 100000 in
mutual
def laidCells : DataW Unit → List Value
 | .lit (.int k n) => [.int k n]
 | .lit (.bool b) => [.bool b]
 | .agg parts => laidCellsAll parts
 | _ => []
def laidCellsAll : List (DataW Unit) → List Value
 | [] => []
 | d :: r => laidCells d ++ laidCellsAll r
end
def laidObj (d : DataW Unit) : Obj → Obj
 | .cells _ t frozen => .cells (laidCells d).toArray t frozen
 | o => o
noncomputable def laidPut (h : Array Obj) (p : String × DataW Unit) : Array Obj := match Tryz.prog.globalNamed p.1 with
 | some g => h.modify g (laidObj p.2)
 | none => h
noncomputable def laidWorld (os : Os) : World :=
 { World.holding Tryz.prog os ⟨#[], #[], []⟩ with heap := List.foldl laidPut (World.holding Tryz.prog os ⟨#[], #[], []⟩).heap Rows.fetchOwnRow.laid }
theorem laid_met (os : Os) : laidMet Tryz.prog Rows.fetchOwnRow.laid ((laidWorld os).forCall (fun _ _ => 0) ⟨#[], #[.slice none 0 0, .slice none 0 0, .slice none 0 0], []⟩).memory :=
 laidMet_of_run' 8 (by kernel_rfl) (by kernel_rfl)
theorem reads (os : Os) {H : Type} (enc : TypeId × Value → H) : ∃ places, DataW.whole enc Tryz.prog ((laidWorld os).forCall (fun _ _ => 0) ⟨#[], #[.slice none 0 0, .slice none 0 0, .slice none 0 0], []⟩).memory Tryz.f10.params.toList Rows.fetchOwnSpec.vars false (#[.slice none 0 0, .slice none 0 0, .slice none 0 0] : Array Value).toList 8 = some ([.nil, .nil, .nil], [], places) :=
 ⟨[], by kernel_rfl⟩
set_option maxRecDepth 100000 in
theorem lifted (os : Os) (started : os.Started) (H : Type) (enc : TypeId × Value → H) (F : Stop.Interp) :
  ReturnsInHanded {} Tryz.checked os 10 .any ((OpenSpec.ofChange Rows.fetchOwnSpec).preRow enc Tryz.prog Tryz.f10 Rows.fetchOwnRow.domain false Rows.fetchOwnRow.laid) (((OpenSpec.ofChange Rows.fetchOwnSpec).at F).post enc Tryz.prog Tryz.f10 false true false false) := by
 obtain ⟨places, hx⟩ := reads os enc
 refine returnsInHanded_of_row (C := Tryz.checked) (s := (OpenSpec.ofChange Rows.fetchOwnSpec)) own started (by kernel_rfl) Tryz.func10
  (witness_row_at (enc := enc) (C := Tryz.checked) false (laidWorld os) #[.slice none 0 0, .slice none 0 0, .slice none 0 0] rfl (by kernel_rfl) (by kernel_rfl) (by kernel_rfl)
   (OpenSpec.preRow_of_cond 8 hx (by kernel_rfl) (fun k hk => by cases hk) (by kernel_rfl) (laid_met os))) ?_
 intro W base args ds gs before hval0 hW _ hcond0 hsz0 hL hshape _
 have hval : ∀ (j : Nat) t v, Tryz.f10.params[j]? = some t → args[j]? = some v → Value.okWide Tryz.prog W .any base t v := hval0
 have hsz : (DataW.weightsEach Tryz.prog (Tryz.f10.params.toList ++ Rows.fetchOwnSpec.plain.varTypes Tryz.prog) (ds ++ gs)).all (· ≤ reachBytes) = true := hsz0
 have hW' := hW
 obtain ⟨p, q, hA0, hV, rfl, hfz, hnd⟩ := hW
 have hA : DataW.TrodAll enc Tryz.prog W 0 (fun _ => true) true Tryz.f10.params.toList args.toList ds p := hA0
 rw [Tryz.params10] at hA hval hsz
 obtain ⟨v0, vs0, d0, ds0, p0, q0, hargs, rfl, rfl, h0, r0⟩ := trodAll_cons hA
 obtain ⟨v1, vs1, d1, ds1, p1, q1, rfl, rfl, rfl, h1, r1⟩ := trodAll_cons r0
 obtain ⟨v2, vs2, d2, ds2, p2, q2, rfl, rfl, rfl, h2, r2⟩ := trodAll_cons r1
 obtain ⟨rfl, rfl, rfl⟩ := trodAll_nil r2
 obtain rfl : args = #[v0, v1, v2] := by cases args; simp_all
 obtain ⟨rfl, rfl⟩ := trodVars_none hV
 have k0 := h0
 have lt0 : ∀ x ∈ p0, x.block < W.heap.size := by obtain ⟨m, hm⟩ := k0; exact DataW.trod_lt m _ _ _ hm
 have k1 := h1
 have lt1 : ∀ x ∈ p1, x.block < W.heap.size := by obtain ⟨m, hm⟩ := k1; exact DataW.trod_lt m _ _ _ hm
 have k2 := h2
 have lt2 : ∀ x ∈ p2, x.block < W.heap.size := by obtain ⟨m, hm⟩ := k2; exact DataW.trod_lt m _ _ _ hm
 refine (walk H enc W base v0 d0 p0 v1 d1 p1 v2 d2 p2 (hval 0 28 v0 rfl rfl) h0 (hval 1 28 v1 rfl rfl) h1 (hval 2 57 v2 rfl rfl) h2 hsz hL hshape).mono fun e W' ⟨he, bel⟩ => ?_
 subst he
 exact ⟨_, rfl, _, _, _, [], _, [], hW', trodAll_mk1 (shut_bool Tryz.underlying4 _), (trodAll_cons_mk (Below.trod laidOut (by kernel_rfl) (of_decide_eq_true (by kernel_rfl)) k0 bel lt0) (trodAll_cons_mk (Below.trod laidOut (by kernel_rfl) (of_decide_eq_true (by kernel_rfl)) k1 bel lt1) (trodAll_cons_mk (Below.trod laidOut (by kernel_rfl) (of_decide_eq_true (by kernel_rfl)) k2 bel lt2) trodAll_mk0))), rfl, bel.frame _, fun h => by cases h⟩
theorem said : Rows.FetchOwnSaid :=
 OpenClaim.holds_of_cond 10 Tryz.f10 rfl rfl rfl rfl rfl rfl rfl ⟨rfl, rfl, rfl, rfl, rfl⟩ rfl rfl rfl rfl rfl (by kernel_rfl) Tryz.func10 (by kernel_rfl)
  (of_decide_eq_true (by kernel_rfl)) (by unfold Func.isWrapper; first | (rw [if_pos (by decide +kernel)]; kernel_rfl) | (rw [if_neg (by decide +kernel)]; exact ⟨rfl, rfl⟩))
  (fun os started H enc _ F => by rw [OpenClaim.pre_eq_preRow]; exact lifted os started H enc F)
theorem plain (f : FuncId) (fn : Func) (hf : Tryz.pinned.checked.prog.funcNamed "lumberroom/lumkeep.FetchOwn" = some f) (hfn : Tryz.pinned.checked.prog.funcs[f]? = some fn) :
  false = Tryz.pinned.checked.prog.looks [] ∧ ∀ (j : Nat) t, fn.params[j]? = some t → Tryz.pinned.checked.prog.wantsStandIn t = false := by
 obtain rfl : f = 10 := Option.some.inj ((show Tryz.prog.funcNamed "lumberroom/lumkeep.FetchOwn" = some 10 by kernel_rfl).symm.trans hf) |>.symm
 obtain rfl : fn = Tryz.f10 := (Option.some.inj (Tryz.func10.symm.trans hfn)).symm
 refine ⟨by kernel_rfl, fun j t ht => ?_⟩
 rw [Tryz.params10] at ht
 have hm : t ∈ [28, 28, 57] := by simpa using Array.mem_of_getElem? ht
 have hall : ([28, 28, 57].all fun u => !Tryz.prog.wantsStandIn u) = true := by kernel_rfl
 exact (show Tryz.prog.wantsStandIn t = false by simpa using List.all_eq_true.1 hall t hm)
theorem proved : Rows.FetchOwnCardSaid :=
 Claim7.holds_tied_plain_at .later [] _ _ _ _ said (fun _ h => by cases h) (by kernel_rfl) (fun _ h => by cases h) fetchOwn_row_tie rfl ⟨rfl, rfl⟩ (by kernel_rfl) rfl plain (by kernel_rfl)
end Go.Proofs.YtbfoonfbhebhfaaGreatDoor.fetchOwn
