/- FetchFront: for every two lists of blobs, every list of IDs and every number: who takes a beginning of a plan has nothing that lacks a part; the call answers true. The card ties the listed variables to the program's text; no other condition. -/
import Derived.Test.YtbfoonfbhebhfaaGreatDoorRows
import Derived.WalkKit
import Derived.ProofKit
import Derived.OpenShut
import Derived.ShutString
import Derived.ChangeOld
import Derived.Below
import Derived.SizedLaws
import Derived.Test.YtbfoonfbhebhfaaGreatDoorCards
import Derived.Test.YtbfoonfbhebhfaaGreatDoorTie
import Derived.Deep.DeepHandedRow
import Derived.Lib.LaidTab
import Derived.Test.YtbfoonfbhebhfaaGreatDoorJGpP
import Derived.Test.YtbfoonfbhebhfaaGreatDoorJGpL
import Derived.Test.YtbfoonfbhebhfaaGreatDoorJGnC
namespace Go.Proofs.YtbfoonfbhebhfaaGreatDoor.fetchFront
open Go.ChangeShapes Go.WideShapes Go.ChangeAt Go.RowKit
open Go.ChangeMaps (open_string shut_string)
set_option linter.unusedVariables false
theorem own : ownKnob Tryz.prog.godebug = none := by kernel_rfl
theorem laidOut : laidOutB Tryz.prog = true := by kernel_rfl
set_option maxRecDepth 100000 in
theorem walk (H : Type) (enc : TypeId × Value → H) (W : World) (base : Nat) (v0 : Value) (d0 : DataW H) (p0 : List MemPlace) (v1 : Value) (d1 : DataW H) (p1 : List MemPlace) (v2 : Value) (d2 : DataW H) (p2 : List MemPlace) (v3 : Value) (d3 : DataW H) (p3 : List MemPlace) (o0 : Value.okWide Tryz.prog W .any base 28 v0) (h0 : DataW.Trod enc Tryz.prog W 0 (fun _ => true) true 28 v0 d0 p0) (o1 : Value.okWide Tryz.prog W .any base 28 v1) (h1 : DataW.Trod enc Tryz.prog W 0 (fun _ => true) true 28 v1 d1 p1) (o2 : Value.okWide Tryz.prog W .any base 57 v2) (h2 : DataW.Trod enc Tryz.prog W 0 (fun _ => true) true 57 v2 d2 p2) (o3 : Value.okWide Tryz.prog W .any base 3 v3) (h3 : DataW.Trod enc Tryz.prog W 0 (fun _ => true) true 3 v3 d3 p3) (hsz : (DataW.weightsEach Tryz.prog [28, 28, 57, 3] [d0, d1, d2, d3]).all (· ≤ reachBytes) = true) (hL : laidMetH Tryz.prog Rows.fetchFrontRow.laid W) (hshape : W.ShapedOpen Tryz.prog) :
  Calls Tryz.prog 11 #[v0, v1, v2, v3] W fun e W' => e = .returned (.bool true) ∧ Below W.heap.size W W' := by
 obtain ⟨ah, hv, ch, rfl, hh1, hh4⟩ := open_blobsW o0 h0 (fun n hn => by
  have := List.all_eq_true.1 hsz _ (DataW.weights_mem_each (j := 0) rfl rfl n hn)
  simpa using this)
 obtain ⟨ab, l, cb, rfl, hb1, hb2, hb4⟩ := open_blobs o1 h1
 obtain ⟨ar, lr, cr, rfl, hr1, hr2, hr4⟩ := open_idsT o2 h2
 obtain ⟨n, rfl, rfl, rfl, _⟩ := open_int Tryz.underlying3 o3 h3
 obtain ⟨m, hm⟩ := maxl_of hshape
 have h := fetchFront_any ah ab ar ch cb cr hv l (lr.map idL) n m W hh4 hb4 (sat_idK hr4) (idsL_map lr) hh1 (by omega) (by rw [List.length_map]; omega) hm (tabs_of hL) ⟨m, hm⟩
 rw [List.length_map] at h
 exact h
set_option maxRecDepth 100000 in
mutual
def laidCells : DataW Unit → List Value
 | .lit (.int k n) => [.int k n]
 | .lit (.bool b) => [.bool b]
 | .agg parts => laidCellsAll parts
 | _ => []
def laidCellsAll : List (DataW Unit) → List Value
 | [] => []
 | d :: r => laidCells d ++ laidCellsAll r
end
def laidObj (d : DataW Unit) : Obj → Obj
 | .cells _ t frozen => .cells (laidCells d).toArray t frozen
 | o => o
noncomputable def laidPut (h : Array Obj) (p : String × DataW Unit) : Array Obj := match Tryz.prog.globalNamed p.1 with
 | some g => h.modify g (laidObj p.2)
 | none => h
noncomputable def laidWorld (os : Os) : World :=
 { World.holding Tryz.prog os ⟨#[], #[], []⟩ with heap := List.foldl laidPut (World.holding Tryz.prog os ⟨#[], #[], []⟩).heap Rows.fetchFrontRow.laid }
theorem laid_met (os : Os) : laidMet Tryz.prog Rows.fetchFrontRow.laid ((laidWorld os).forCall (fun _ _ => 0) ⟨#[], #[.slice none 0 0, .slice none 0 0, .slice none 0 0, .int .i64 0], []⟩).memory :=
 laidMet_of_run' 8 (by kernel_rfl) (by kernel_rfl)
theorem reads (os : Os) {H : Type} (enc : TypeId × Value → H) : ∃ places, DataW.whole enc Tryz.prog ((laidWorld os).forCall (fun _ _ => 0) ⟨#[], #[.slice none 0 0, .slice none 0 0, .slice none 0 0, .int .i64 0], []⟩).memory Tryz.f11.params.toList Rows.fetchFrontSpec.vars false (#[.slice none 0 0, .slice none 0 0, .slice none 0 0, .int .i64 0] : Array Value).toList 8 = some ([.nil, .nil, .nil, .lit (.int .i64 0)], [], places) :=
 ⟨[], by kernel_rfl⟩
set_option maxRecDepth 100000 in
theorem lifted (os : Os) (started : os.Started) (H : Type) (enc : TypeId × Value → H) (F : Stop.Interp) :
  ReturnsInHanded {} Tryz.checked os 11 .any ((OpenSpec.ofChange Rows.fetchFrontSpec).preRow enc Tryz.prog Tryz.f11 Rows.fetchFrontRow.domain false Rows.fetchFrontRow.laid) (((OpenSpec.ofChange Rows.fetchFrontSpec).at F).post enc Tryz.prog Tryz.f11 false true false false) := by
 obtain ⟨places, hx⟩ := reads os enc
 refine returnsInHanded_of_row (C := Tryz.checked) (s := (OpenSpec.ofChange Rows.fetchFrontSpec)) own started (by kernel_rfl) Tryz.func11
  (witness_row_at (enc := enc) (C := Tryz.checked) false (laidWorld os) #[.slice none 0 0, .slice none 0 0, .slice none 0 0, .int .i64 0] rfl (by kernel_rfl) (by kernel_rfl) (by kernel_rfl)
   (OpenSpec.preRow_of_cond 8 hx (by kernel_rfl) (fun k hk => by cases hk) (by kernel_rfl) (laid_met os))) ?_
 intro W base args ds gs before hval0 hW _ hcond0 hsz0 hL hshape _
 have hval : ∀ (j : Nat) t v, Tryz.f11.params[j]? = some t → args[j]? = some v → Value.okWide Tryz.prog W .any base t v := hval0
 have hsz : (DataW.weightsEach Tryz.prog (Tryz.f11.params.toList ++ Rows.fetchFrontSpec.plain.varTypes Tryz.prog) (ds ++ gs)).all (· ≤ reachBytes) = true := hsz0
 have hW' := hW
 obtain ⟨p, q, hA0, hV, rfl, hfz, hnd⟩ := hW
 have hA : DataW.TrodAll enc Tryz.prog W 0 (fun _ => true) true Tryz.f11.params.toList args.toList ds p := hA0
 rw [Tryz.params11] at hA hval hsz
 obtain ⟨v0, vs0, d0, ds0, p0, q0, hargs, rfl, rfl, h0, r0⟩ := trodAll_cons hA
 obtain ⟨v1, vs1, d1, ds1, p1, q1, rfl, rfl, rfl, h1, r1⟩ := trodAll_cons r0
 obtain ⟨v2, vs2, d2, ds2, p2, q2, rfl, rfl, rfl, h2, r2⟩ := trodAll_cons r1
 obtain ⟨v3, vs3, d3, ds3, p3, q3, rfl, rfl, rfl, h3, r3⟩ := trodAll_cons r2
 obtain ⟨rfl, rfl, rfl⟩ := trodAll_nil r3
 obtain rfl : args = #[v0, v1, v2, v3] := by cases args; simp_all
 obtain ⟨rfl, rfl⟩ := trodVars_none hV
 have k0 := h0
 have lt0 : ∀ x ∈ p0, x.block < W.heap.size := by obtain ⟨m, hm⟩ := k0; exact DataW.trod_lt m _ _ _ hm
 have k1 := h1
 have lt1 : ∀ x ∈ p1, x.block < W.heap.size := by obtain ⟨m, hm⟩ := k1; exact DataW.trod_lt m _ _ _ hm
 have k2 := h2
 have lt2 : ∀ x ∈ p2, x.block < W.heap.size := by obtain ⟨m, hm⟩ := k2; exact DataW.trod_lt m _ _ _ hm
 have k3 := h3
 have lt3 : ∀ x ∈ p3, x.block < W.heap.size := by obtain ⟨m, hm⟩ := k3; exact DataW.trod_lt m _ _ _ hm
 refine (walk H enc W base v0 d0 p0 v1 d1 p1 v2 d2 p2 v3 d3 p3 (hval 0 28 v0 rfl rfl) h0 (hval 1 28 v1 rfl rfl) h1 (hval 2 57 v2 rfl rfl) h2 (hval 3 3 v3 rfl rfl) h3 hsz hL hshape).mono fun e W' ⟨he, bel⟩ => ?_
 subst he
 exact ⟨_, rfl, _, _, _, [], _, [], hW', trodAll_mk1 (shut_bool Tryz.underlying4 _), (trodAll_cons_mk (Below.trod laidOut (by kernel_rfl) (of_decide_eq_true (by kernel_rfl)) k0 bel lt0) (trodAll_cons_mk (Below.trod laidOut (by kernel_rfl) (of_decide_eq_true (by kernel_rfl)) k1 bel lt1) (trodAll_cons_mk (Below.trod laidOut (by kernel_rfl) (of_decide_eq_true (by kernel_rfl)) k2 bel lt2) (trodAll_cons_mk (Below.trod laidOut (by kernel_rfl) (of_decide_eq_true (by kernel_rfl)) k3 bel lt3) trodAll_mk0)))), rfl, bel.frame _, fun h => by cases h⟩
theorem said : Rows.FetchFrontSaid :=
 OpenClaim.holds_of_cond 11 Tryz.f11 rfl rfl rfl rfl rfl rfl rfl ⟨rfl, rfl, rfl, rfl, rfl⟩ rfl rfl rfl rfl rfl (by kernel_rfl) Tryz.func11 (by kernel_rfl)
  (of_decide_eq_true (by kernel_rfl)) (by unfold Func.isWrapper; first | (rw [if_pos (by decide +kernel)]; kernel_rfl) | (rw [if_neg (by decide +kernel)]; exact ⟨rfl, rfl⟩))
  (fun os started H enc _ F => by rw [OpenClaim.pre_eq_preRow]; exact lifted os started H enc F)
theorem plain (f : FuncId) (fn : Func) (hf : Tryz.pinned.checked.prog.funcNamed "lumberroom/lumkeep.FetchFront" = some f) (hfn : Tryz.pinned.checked.prog.funcs[f]? = some fn) :
  false = Tryz.pinned.checked.prog.looks [] ∧ ∀ (j : Nat) t, fn.params[j]? = some t → Tryz.pinned.checked.prog.wantsStandIn t = false := by
 obtain rfl : f = 11 := Option.some.inj ((show Tryz.prog.funcNamed "lumberroom/lumkeep.FetchFront" = some 11 by kernel_rfl).symm.trans hf) |>.symm
 obtain rfl : fn = Tryz.f11 := (Option.some.inj (Tryz.func11.symm.trans hfn)).symm
 refine ⟨by kernel_rfl, fun j t ht => ?_⟩
 rw [Tryz.params11] at ht
 have hm : t ∈ [28, 28, 57, 3] := by simpa using Array.mem_of_getElem? ht
 have hall : ([28, 28, 57, 3].all fun u => !Tryz.prog.wantsStandIn u) = true := by kernel_rfl
 exact (show Tryz.prog.wantsStandIn t = false by simpa using List.all_eq_true.1 hall t hm)
theorem proved : Rows.FetchFrontCardSaid :=
 Claim7.holds_tied_plain_at .later [] _ _ _ _ said (fun _ h => by cases h) (by kernel_rfl) (fun _ h => by cases h) fetchFront_row_tie rfl ⟨rfl, rfl⟩ (by kernel_rfl) rfl plain (by kernel_rfl)
end Go.Proofs.YtbfoonfbhebhfaaGreatDoor.fetchFront
