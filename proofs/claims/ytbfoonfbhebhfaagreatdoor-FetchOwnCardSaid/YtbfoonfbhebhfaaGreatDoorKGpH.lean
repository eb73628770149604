/- Joined: BlEq, IdsEq. -/
import Derived.Test.YtbfoonfbhebhfaaGreatDoorKGoK
import Derived.Test.YtbfoonfbhebhfaaGreatDoorKGnJ
import Derived.ChangeKeysEq
import Derived.Laws.StructEq
import Derived.Test.YtbfoonfbhebhfaaGreatDoorKGnT
import Derived.Test.YtbfoonfbhebhfaaGreatDoorKGnY
namespace Go.Proofs.YtbfoonfbhebhfaaGreatDoor
open Go.RowKit Plain
set_option linter.unusedVariables false
set_option linter.unusedSimpArgs false
theorem val_binBl {P : Program} {o : Oper} {a : Act} {x y : Operand} {t t2 : TypeId} {bo : BinOp} {u v : Value} {b : Bool} {w : World} (ho : o.op = .binOp bo t x y t2) (hx : a.eval x = u) (hy : a.eval y = v) (hr : (binOp bo t u v).run P w = .ok (.bool b) w) (hg : (eqGuard bo t x y u v).run P w = .ok () w) : (execOp a.eval o).run P w = .ok (.value (.bool b)) w := by
 unfold execOp
 simp only [ho, hx, hy, Sem.run_bind, hr, hg, Sem.run_pure, Result.andThen_ok]
theorem eqIn_bl2 (d : Nat) (p q : Bl) (w : World) : (Op.equalIn (d + 3) 37 (.agg (blC p).toArray) (.agg (blC q).toArray)).run Tryz.prog w = .ok (decide (p = q)) w := eqIn_blW d w p.1 q.1 p.2 q.2
set_option maxRecDepth 100000 in
theorem eqBl (p q : Bl) (b : Bool) (hb : decide (p = q) = b) : (∀ wx, (binOp .eql 37 (.agg (blC p).toArray) (.agg (blC q).toArray)).run Tryz.prog wx = .ok (.bool b) wx) ∧ (∀ wx, (binOp .neq 37 (.agg (blC p).toArray) (.agg (blC q).toArray)).run Tryz.prog wx = .ok (.bool !b) wx) ∧
  (∀ (o : BinOp) (x y : Operand) (wx : World), (eqGuard o 37 x y (.agg (blC p).toArray) (.agg (blC q).toArray)).run Tryz.prog wx = .ok () wx) := by
 subst hb
 refine ⟨fun wx => ?_, fun wx => ?_, fun o x y wx => run_eqGuard_agg wx o _ x y _ _ (by kernel_rfl)⟩
 ·
  have h := run_eql_struct (P := Tryz.prog) wx 37 (blC p).toArray (blC q).toArray
  rw [show (10000 : Nat) = 9997 + 3 from rfl, eqIn_bl2] at h
  exact h
 ·
  have h := run_neq_struct (P := Tryz.prog) wx 37 (blC p).toArray (blC q).toArray
  rw [show (10000 : Nat) = 9997 + 3 from rfl, eqIn_bl2] at h
  exact h
def EqBEnd (w0 : World) (l m : List Bl) (e : Ending) (w : World) : Prop := (∃ r : Bool, e = .returned (.bool r) ∧ (r = true ↔ l = m)) ∧ Below w0.heap.size w0 w
set_option maxRecDepth 100000 in
set_option maxHeartbeats 2000000 in
theorem eqBls_any (a b : Option Addr) (ca cb : Nat) (l m : List Bl) (w : World) (hl : SAt 2 blC w a l) (hm : SAt 2 blC w b m) (nl : l.length ≤ 9223372036854775807) (nm : m.length ≤ 9223372036854775807) :
  Calls Tryz.prog 47 #[.slice a l.length ca, .slice b m.length cb] w (EqBEnd w l m) := by
 have HL := Lib.hid hl
 have HM := Lib.hid hm
 have hu := Tryz.underlying37
 have ICZ : Hid ((Tryz.prog.info? 37).map (·.size) = some 2) := by show _ = _; kernel_rfl
 clear hl hm
 by_cases hlen : l.length = m.length
 ·
  have f1 : ((l.length : Int) != (m.length : Int)) = false := by simp [hlen]
  have HLEN := Lib.hid hlen
  clear hlen
  go_enter Tryz.func47, Tryz.ntmps47
  go_wp2_with fail
  go_loopw [13] (fun iv wr => ∃ i : Nat, i ≤ l.length ∧ iv = .int .i64 (i : Int) ∧ Below w.heap.size w wr ∧ l.take i = m.take i) (fun iv _ => l.length - (intOf iv).toNat)
  case atStart => exact ⟨0, by omega, rfl, Below.refl _ _, by simp⟩
  case round =>
   obtain ⟨k, hi, rfl, hbr, hall⟩ := hrel
   have HBR := Lib.hid hbr
   have HALL := Lib.hid hall
   clear hbr hall
   by_cases hlt : k < l.length
   ·
    have kk : (k : Int) < (l.length : Int) := by omega
    have k0 : (0 : Int) ≤ (k : Int) := Int.natCast_nonneg _
    have hlt2 : k < m.length := by have := HLEN.out; omega
    have kk2 : (k : Int) < (m.length : Int) := by omega
    obtain ⟨g, off, rfl, hg, hrng⟩ := (HL.out.below HBR.out) k hlt
    obtain ⟨g', off', rfl, hg', hrng'⟩ := (HM.out.below HBR.out) k hlt2
    have HRG := Lib.hid hrng
    have HRG2 := Lib.hid hrng'
    have HST : Hid (l[k] = m[k] → l.take (k + 1) = m.take (k + 1)) := fun h => by rw [List.take_succ_eq_append_getElem hlt, List.take_succ_eq_append_getElem hlt2, HALL.out, h]
    have HNE : Hid (l[k] ≠ m[k] → l ≠ m) := fun h e => h (by subst e; rfl)
    generalize hp : l[k] = p at *
    generalize hq : m[k] = q at *
    obtain ⟨b, hb⟩ : ∃ b, decide (p = q) = b := ⟨_, rfl⟩
    obtain ⟨_, E2, E3⟩ := eqBl p q b hb
    have HQL : Hid ((blC q).length = 2) := blC_length _
    have HPL : Hid ((blC p).length = 2) := blC_length _
    have HBB : Hid (b = true ↔ p = q) := by rw [← hb]; exact decide_eq_true_iff
    generalize hqc : blC q = qc at *
    generalize hpc : blC p = pc at *
    have HE2 := Lib.hid E2
    have HE3 := Lib.hid E3
    have ic1 : (Tryz.prog.info? 37).map (·.size) = some pc.length := by rw [HPL.out]; exact ICZ.out
    have ic2 : (Tryz.prog.info? 37).map (·.size) = some qc.length := by rw [HQL.out]; exact ICZ.out
    clear hrng hrng' hq hp hb E2 E3 hqc hpc hg hg'
    go_wp2_with fail
    refine wp_region_noPanic ?_
    refine wp_region_held_drew (S := fun w' => w'.rangeAt g (off + k * 2) pc ∧ w'.rangeAt g' (off' + k * 2) qc) (by kernel_rfl) ⟨HRG.out, HRG2.out⟩ (fun hS0 => ?_)
    have HS0 := Lib.hid hS0
    have HB1 : Hid (Below w.heap.size w wr.drew) := HBR.out.drew
    clear hS0 HBR
    generalize wr.drew = v0 at *
    refine take_val 0 (.slice (some ⟨g, off, none⟩) l.length ca) rfl (by kernel_rfl) (by kernel_rfl) (by kernel_rfl) (fun _ _ _ _ h => h) (by rfl) rfl (fun w _ => by go_simp) HS0.out ?_
    try simp only [List.set_cons_zero, List.set_cons_succ]
    refine take_val 1 (.int .i64 (k : Int)) rfl (by kernel_rfl) (by kernel_rfl) (by kernel_rfl) (fun _ _ _ _ h => h) (by rfl) rfl (fun w _ => by go_simp) HS0.out ?_
    try simp only [List.set_cons_zero, List.set_cons_succ]
    refine take_val 2 (.pointer (some ⟨g, off + k * 2, none⟩)) rfl (by kernel_rfl) (by kernel_rfl) (by kernel_rfl) (fun _ _ _ _ h => h) (by rfl) rfl (fun w _ => by go_simp) HS0.out ?_
    try simp only [List.set_cons_zero, List.set_cons_succ]
    refine take_row 3 rfl (by kernel_rfl) (by kernel_rfl) (by kernel_rfl) (fun _ _ _ _ h => h) (by rfl) rfl rfl rfl (fun _ hS => hS.1) hu rfl ic1 HS0.out ?_
    try simp only [List.set_cons_zero, List.set_cons_succ]
    refine take_val 4 (.slice (some ⟨g', off', none⟩) m.length cb) rfl (by kernel_rfl) (by kernel_rfl) (by kernel_rfl) (fun _ _ _ _ h => h) (by rfl) rfl (fun w _ => by go_simp) HS0.out ?_
    try simp only [List.set_cons_zero, List.set_cons_succ]
    refine take_val 5 (.int .i64 (k : Int)) rfl (by kernel_rfl) (by kernel_rfl) (by kernel_rfl) (fun _ _ _ _ h => h) (by rfl) rfl (fun w _ => by go_simp) HS0.out ?_
    try simp only [List.set_cons_zero, List.set_cons_succ]
    refine take_val 6 (.pointer (some ⟨g', off' + k * 2, none⟩)) rfl (by kernel_rfl) (by kernel_rfl) (by kernel_rfl) (fun _ _ _ _ h => h) (by rfl) rfl (fun w _ => by go_simp) HS0.out ?_
    try simp only [List.set_cons_zero, List.set_cons_succ]
    refine take_row 7 rfl (by kernel_rfl) (by kernel_rfl) (by kernel_rfl) (fun _ _ _ _ h => h) (by rfl) rfl rfl rfl (fun _ hS => hS.2) hu rfl ic2 HS0.out ?_
    try simp only [List.set_cons_zero, List.set_cons_succ]
    refine take_val 8 (.bool !b) rfl (by kernel_rfl) (by kernel_rfl) (by kernel_rfl) (fun _ _ _ _ h => h) (by rfl) rfl (fun w _ => val_binBl rfl rfl rfl (HE2.out w) (HE3.out _ _ _ w)) HS0.out ?_
    try simp only [List.set_cons_zero, List.set_cons_succ]
    refine wpAnyH_done (by kernel_rfl) ?_ _
    refine NoPanic.normal ?_
    cases b with
    | true =>
     have HN := Lib.hid (HST.out (HBB.out.1 rfl))
     clear HBB HST HNE
     go_wp2_with fail
     go_roundw
     case rel => exact ⟨k + 1, by omega, by go_num, HB1.out, HN.out⟩
     case measure => simp [intOf]; omega
    | false =>
     have HN := Lib.hid (HNE.out (fun h => by have := HBB.out.2 h; cases this))
     clear HBB HST HNE
     go_wp2_with fail
     go_ret
     exact ⟨⟨false, rfl, fun h => (by cases h), fun h => absurd h HN.out⟩, HB1.out⟩
   ·
    have m1 : ¬ (k : Int) < (l.length : Int) := by omega
    have HE : Hid (l = m) := by
     have h := HALL.out
     have := HLEN.out
     show _ = _
     rwa [List.take_of_length_le (by omega), List.take_of_length_le (by omega)] at h
    go_wp2_with fail
    go_ret
    exact ⟨⟨true, rfl, fun _ => HE.out, fun _ => rfl⟩, HBR.out⟩
 ·
  have f1 : ((l.length : Int) != (m.length : Int)) = true := by simp; omega
  have HE : Hid (l ≠ m) := fun h => hlen (by rw [h])
  clear hlen
  go_enter Tryz.func47, Tryz.ntmps47
  go_wp2_with fail
  go_ret
  exact ⟨⟨false, rfl, fun h => (by cases h), fun h => absurd h HE.out⟩, Below.refl _ _⟩
end Go.Proofs.YtbfoonfbhebhfaaGreatDoor
namespace Go.Proofs.YtbfoonfbhebhfaaGreatDoor
open Go.RowKit Plain
set_option linter.unusedVariables false
set_option linter.unusedSimpArgs false
set_option maxRecDepth 100000 in
theorem eqId8 (p q : ID8) (b : Bool) (hb : decide (idL p = idL q) = b) : (∀ wx, (binOp .eql 30 (.agg (idC p).toArray) (.agg (idC q).toArray)).run Tryz.prog wx = .ok (.bool b) wx) ∧ (∀ wx, (binOp .neq 30 (.agg (idC p).toArray) (.agg (idC q).toArray)).run Tryz.prog wx = .ok (.bool !b) wx) ∧
  (∀ (o : BinOp) (x y : Operand) (wx : World), (eqGuard o 30 x y (.agg (idC p).toArray) (.agg (idC q).toArray)).run Tryz.prog wx = .ok () wx) := by
 have hd := hb
 have h1 := eqK_id (idL p) (idL q) rfl rfl
 refine ⟨fun wx => ?_, fun wx => ?_, fun o x y wx => ?_⟩
 ·
  have h := h1.1 wx
  rw [hd] at h
  exact h
 ·
  have h := neq_id8 wx (idL p) (idL q) rfl rfl
  rw [hd] at h
  exact h
 ·
  exact run_eqGuard_agg wx o _ x y _ _ (by kernel_rfl)
end Go.Proofs.YtbfoonfbhebhfaaGreatDoor
