/- FieldRoots: for all slices of bytes p, q and every byte x: sums of polynomials have sums of values, and p has no more roots than its degree; the call answers true. No condition. -/
import Derived.Test.YtcocdlhjfbpkfaaRows
import Derived.WalkKit
import Derived.ProofKit
import Derived.OpenShut
import Derived.ShutString
import Derived.ChangeOld
import Derived.Below
import Derived.SizedLaws
import Derived.Test.YtcocdlhjfbpkfaaFieldRootsNil
import Derived.Test.YtcocdlhjfbpkfaaOpen
namespace Go.Proofs.Ytcocdlhjfbpkfaa.fieldRoots
open Go.ChangeShapes Go.WideShapes Go.ChangeAt Go.RowKit
open Go.ChangeMaps (open_string shut_string)
set_option linter.unusedVariables false
theorem own : ownKnob Try.prog.godebug = none := by kernel_rfl
theorem laidOut : laidOutB Try.prog = true := by kernel_rfl
theorem cells_u8 : Try.prog.cellsOf 5 = 1 := by kernel_rfl
theorem bytes_u8 : Try.prog.bytesOf 5 = 1 := by kernel_rfl
theorem walk (H : Type) (enc : TypeId × Value → H) (W : World) (base : Nat) (v0 : Value) (d0 : DataW H) (p0 : List MemPlace) (v1 : Value) (d1 : DataW H) (p1 : List MemPlace) (v2 : Value) (d2 : DataW H) (p2 : List MemPlace) (o0 : Value.okWide Try.prog W .any base 22 v0) (h0 : DataW.Trod enc Try.prog W 0 (fun _ => true) true 22 v0 d0 p0) (o1 : Value.okWide Try.prog W .any base 22 v1) (h1 : DataW.Trod enc Try.prog W 0 (fun _ => true) true 22 v1 d1 p1) (o2 : Value.okWide Try.prog W .any base 5 v2) (h2 : DataW.Trod enc Try.prog W 0 (fun _ => true) true 5 v2 d2 p2) (hsz : (DataW.weightsEach Try.prog [22, 22, 5] [d0, d1, d2]).all (· ≤ reachBytes) = true) :
    Calls Try.prog 7 #[v0, v1, v2] W fun e W' => e = .returned (.bool true) ∧ Below W.heap.size W W' := by
  obtain ⟨x, rfl, rfl, rfl, wx⟩ := open_int Try.underlying5 o2 h2
  obtain ⟨x, rfl, hx⟩ := byteOf wx
  obtain ⟨a0, len0, cap0, rfl⟩ := okWide_slice Try.underlying22 o0
  obtain ⟨a1, len1, cap1, rfl⟩ := okWide_slice Try.underlying22 o1
  rcases open_bytes Try.underlying22 Try.underlying5 cells_u8 h0 with ⟨rfl, rfl, rfl, rfl⟩ | ⟨b, off, sp, p, el, spr, rfl, rfl, hcp, rfl, hsp, hbp, hpl⟩
  · rcases open_bytes Try.underlying22 Try.underlying5 cells_u8 h1 with ⟨rfl, rfl, rfl, rfl⟩ | ⟨b2, off2, sp2, q, el2, spr2, rfl, rfl, hcq, rfl, hsq, hbq, hql⟩
    · exact fieldRoots_nil_nil x W hx
    · have hr2 := sized_slice hsz (j := 1) rfl rfl Try.underlying22
      rw [bytes_u8] at hr2
      unfold reachBytes at hr2
      exact fieldRoots_nil_row b2 off2 cap1 sp2 q x W (by omega) hcq hbq hql hx
  · have hr := sized_slice hsz (j := 0) rfl rfl Try.underlying22
    rw [bytes_u8] at hr
    unfold reachBytes at hr
    rcases open_bytes Try.underlying22 Try.underlying5 cells_u8 h1 with ⟨rfl, rfl, rfl, rfl⟩ | ⟨b2, off2, sp2, q, el2, spr2, rfl, rfl, hcq, rfl, hsq, hbq, hql⟩
    · exact fieldRoots_row_nil b off cap0 sp p x W (by omega) hcp hbp hpl hx
    · have hr2 := sized_slice hsz (j := 1) rfl rfl Try.underlying22
      rw [bytes_u8] at hr2
      unfold reachBytes at hr2
      exact fieldRoots_try b off cap0 sp b2 off2 cap1 sp2 p q x W (by omega) (by omega) hcp hcq hbp hbq hpl hql hx
set_option maxRecDepth 100000 in
theorem lifted (os : Os) (started : os.Started) (H : Type) (enc : TypeId × Value → H) :
    ReturnsInHanded {} Try.checked os 7 .any (Rows.fieldRootsSpec.pre6 enc Try.prog Try.f7 Rows.fieldRootsRow.domain false) (Rows.fieldRootsSpec.post enc Try.prog Try.f7 false true false false) := by
  refine returnsInHanded_of_change_sized (C := Try.checked) own started (by kernel_rfl) Try.func7
    (ChangeSpec.witness6 (enc := enc) (C := Try.checked) false ⟨#[], #[.slice none 0 0, .slice none 0 0, .int .u8 0], []⟩ 8 (by kernel_rfl) (by kernel_rfl) (by kernel_rfl) (by kernel_rfl)) ?_
  intro W base args ds gs before hval0 hW hcnd hsz0 _
  have hval : ∀ (j : Nat) t v, Try.f7.params[j]? = some t → args[j]? = some v → Value.okWide Try.prog W .any base t v := hval0
  have hsz : (DataW.weightsEach Try.prog (Try.f7.params.toList ++ Rows.fieldRootsSpec.plain.varTypes Try.prog) (ds ++ gs)).all (· ≤ reachBytes) = true := hsz0
  have hW' := hW
  obtain ⟨p, q, hA0, hV, rfl, hfz, hnd⟩ := hW
  have hA : DataW.TrodAll enc Try.prog W 0 (fun _ => true) true Try.f7.params.toList args.toList ds p := hA0
  rw [Try.params7] at hA hval hsz
  obtain ⟨v0, vs0, d0, ds0, p0, q0, hargs, rfl, rfl, h0, r0⟩ := trodAll_cons hA
  obtain ⟨v1, vs1, d1, ds1, p1, q1, rfl, rfl, rfl, h1, r1⟩ := trodAll_cons r0
  obtain ⟨v2, vs2, d2, ds2, p2, q2, rfl, rfl, rfl, h2, r2⟩ := trodAll_cons r1
  obtain ⟨rfl, rfl, rfl⟩ := trodAll_nil r2
  obtain rfl : args = #[v0, v1, v2] := by cases args; simp_all
  obtain ⟨rfl, rfl⟩ := trodVars_none hV
  have k0 := h0
  have lt0 : ∀ x ∈ p0, x.block < W.heap.size := by obtain ⟨m, hm⟩ := k0; exact DataW.trod_lt m _ _ _ hm
  have k1 := h1
  have lt1 : ∀ x ∈ p1, x.block < W.heap.size := by obtain ⟨m, hm⟩ := k1; exact DataW.trod_lt m _ _ _ hm
  have k2 := h2
  have lt2 : ∀ x ∈ p2, x.block < W.heap.size := by obtain ⟨m, hm⟩ := k2; exact DataW.trod_lt m _ _ _ hm
  refine (walk H enc W base v0 d0 p0 v1 d1 p1 v2 d2 p2 (hval 0 22 v0 rfl rfl) h0 (hval 1 22 v1 rfl rfl) h1 (hval 2 5 v2 rfl rfl) h2 hsz).mono fun e W' ⟨he, bel⟩ => ?_
  subst he
  exact ⟨_, rfl, _, _, _, [], _, [], hW', trodAll_mk1 (shut_bool Try.underlying4 _), (trodAll_cons_mk (Below.trod laidOut (by kernel_rfl) (of_decide_eq_true (by kernel_rfl)) k0 bel lt0) (trodAll_cons_mk (Below.trod laidOut (by kernel_rfl) (of_decide_eq_true (by kernel_rfl)) k1 bel lt1) (trodAll_cons_mk (Below.trod laidOut (by kernel_rfl) (of_decide_eq_true (by kernel_rfl)) k2 bel lt2) trodAll_mk0))), rfl, bel.frame _, fun h => by cases h⟩
theorem over : Rows.fieldRootsRow.holds Try.pinned (OpenSpec.ofChange Rows.fieldRootsSpec) :=
  OpenClaim.holds_of_wide 7 Try.f7 rfl rfl rfl rfl rfl rfl rfl ⟨rfl, rfl, rfl, rfl, rfl⟩ rfl rfl rfl rfl rfl (by kernel_rfl) Try.func7 (by kernel_rfl)
    (of_decide_eq_true (by kernel_rfl)) (by unfold Func.isWrapper; first | (rw [if_pos (by decide +kernel)]; kernel_rfl) | (rw [if_neg (by decide +kernel)]; exact ⟨rfl, rfl⟩))
    (fun os started H enc _ => lifted os started H enc)
theorem proved : Rows.FieldRootsSaid := over
end Go.Proofs.Ytcocdlhjfbpkfaa.fieldRoots
