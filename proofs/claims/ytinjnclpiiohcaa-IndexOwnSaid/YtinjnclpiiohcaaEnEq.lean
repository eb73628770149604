/- == of entries by value; the walk of slices.Equal over entries. -/
import Derived.Test.YtinjnclpiiohcaaPlacesEq
import Derived.Test.YtinjnclpiiohcaaPlOf
namespace Go.Proofs.Ytinjnclpiiohcaa
open Go.RowKit Plain
def enV (p : En) : Value := .agg (enC p).toArray
def enE (p q : En) : Bool := idE p.1 q.1 && ((p.2.1 == q.2.1) && ((p.2.2.1 == q.2.2.1) && (p.2.2.2 == q.2.2.2)))
theorem enE_true {p q : En} : enE p q = true ↔ p = q := by
  obtain ⟨i, k, a, b⟩ := p
  obtain ⟨j, k', a', b'⟩ := q
  simp [enE, idE_true]
set_option maxRecDepth 100000 in
theorem part_idE (p : En) (w : World) : (part 67 (enC p).toArray 0).run Try.prog w = .ok (.agg (bA (idL p.1))) w := by
  simp [part, isAgg, run_underlying Try.underlying67]
  rfl
theorem part_intE (p : En) (w : World) (off : Nat) (n : Int) (h : (enC p).toArray[off]? = some (.int .i64 n)) : (part 3 (enC p).toArray off).run Try.prog w = .ok (.int .i64 n) w := run_part_plain w (by kernel_rfl) h
set_option maxRecDepth 100000 in
set_option maxHeartbeats 4000000 in
theorem eq_en (p q : En) (w : World) : (Op.equalIn 10000 78 (enV p) (enV q)).run Try.prog w = .ok (enE p q) w := by
  have hu := Try.underlying78
  unfold enV
  rw [run_equalIn_struct w 9999 78 _ _ (by simp only [Program.fieldsOf, hu]) (by kernel_rfl)]
  simp only [Program.fieldsOf, hu]
  rw [eqFields_cons (by decide) (part_idE p w) (part_idE q w) (eqIn_id 9997 p.1 q.1 w)]
  rw [eqFields_cons (by decide) (part_intE p w 8 p.2.1 rfl) (part_intE q w 8 q.2.1 rfl) (run_equalIn_int w 9998 _ .i64 .i64 _ _ Try.underlying3)]
  rw [eqFields_cons (by decide) (part_intE p w 9 p.2.2.1 rfl) (part_intE q w 9 q.2.2.1 rfl) (run_equalIn_int w 9998 _ .i64 .i64 _ _ Try.underlying3)]
  rw [eqFields_cons (by decide) (part_intE p w 10 p.2.2.2 rfl) (part_intE q w 10 q.2.2.2 rfl) (run_equalIn_int w 9998 _ .i64 .i64 _ _ Try.underlying3)]
  simp only [Op.eqFields, Sem.run_pure]
  unfold enE
  generalize idE p.1 q.1 = b1
  generalize (p.2.1 == q.2.1) = b2
  generalize (p.2.2.1 == q.2.2.1) = b3
  generalize (p.2.2.2 == q.2.2.2) = b4
  cases b1 <;> cases b2 <;> cases b3 <;> cases b4 <;> rfl
set_option maxRecDepth 100000 in
theorem eqEn (p q : En) (b : Bool) (hb : enE p q = b) : (∀ wx, (binOp .eql 78 (enV p) (enV q)).run Try.prog wx = .ok (.bool b) wx) ∧ (∀ wx, (binOp .neq 78 (enV p) (enV q)).run Try.prog wx = .ok (.bool !b) wx) ∧
    (∀ (o : BinOp) (x y : Operand) (wx : World), (eqGuard o 78 x y (enV p) (enV q)).run Try.prog wx = .ok () wx) := by
  subst hb
  refine ⟨fun wx => ?_, fun wx => ?_, fun o x y wx => run_eqGuard_agg wx o _ x y _ _ (by kernel_rfl)⟩
  · have h := run_eql_struct (P := Try.prog) wx 78 (enC p).toArray (enC q).toArray
    rw [show Value.agg (enC p).toArray = enV p from rfl, show Value.agg (enC q).toArray = enV q from rfl, eq_en] at h
    exact h
  · have h := run_neq_struct (P := Try.prog) wx 78 (enC p).toArray (enC q).toArray
    rw [show Value.agg (enC p).toArray = enV p from rfl, show Value.agg (enC q).toArray = enV q from rfl, eq_en] at h
    exact h
def EqEEnd (w0 : World) (l m : List En) (e : Ending) (w : World) : Prop := (∃ r : Bool, e = .returned (.bool r) ∧ (r = true ↔ l = m)) ∧ Below w0.heap.size w0 w
set_option maxRecDepth 100000 in
set_option maxHeartbeats 2000000 in
theorem eqEns_any (a b : Option Addr) (ca cb : Nat) (l m : List En) (w : World) (hl : SAt 11 enC w a l) (hm : SAt 11 enC w b m) (nl : l.length ≤ 9223372036854775807) (nm : m.length ≤ 9223372036854775807) :
    Calls Try.prog 66 #[.slice a l.length ca, .slice b m.length cb] w (EqEEnd w l m) := by
  have HL := Lib.hid hl
  have HM := Lib.hid hm
  have hu := Try.underlying78
  have ICZ : Hid ((Try.prog.info? 78).map (·.size) = some 11) := by show _ = _; kernel_rfl
  clear hl hm
  by_cases hlen : l.length = m.length
  · have f1 : ((l.length : Int) != (m.length : Int)) = false := by simp [hlen]
    have HLEN := Lib.hid hlen
    clear hlen
    go_enter Try.func66, Try.ntmps66
    go_wp2_with fail
    go_loopw [13] (fun iv wr => ∃ i : Nat, i ≤ l.length ∧ iv = .int .i64 (i : Int) ∧ Below w.heap.size w wr ∧ l.take i = m.take i) (fun iv _ => l.length - (intOf iv).toNat)
    case atStart => exact ⟨0, by omega, rfl, Below.refl _ _, by simp⟩
    case round =>
      obtain ⟨k, hi, rfl, hbr, hall⟩ := hrel
      have HBR := Lib.hid hbr
      have HALL := Lib.hid hall
      clear hbr hall
      by_cases hlt : k < l.length
      · have kk : (k : Int) < (l.length : Int) := by omega
        have k0 : (0 : Int) ≤ (k : Int) := Int.natCast_nonneg _
        have hlt2 : k < m.length := by have := HLEN.out; omega
        have kk2 : (k : Int) < (m.length : Int) := by omega
        obtain ⟨g, off, rfl, hg, hrng⟩ := (HL.out.below HBR.out) k hlt
        obtain ⟨g', off', rfl, hg', hrng'⟩ := (HM.out.below HBR.out) k hlt2
        have HRG := Lib.hid hrng
        have HRG2 := Lib.hid hrng'
        have HST : Hid (l[k] = m[k] → l.take (k + 1) = m.take (k + 1)) := fun h => by rw [List.take_succ_eq_append_getElem hlt, List.take_succ_eq_append_getElem hlt2, HALL.out, h]
        have HNE : Hid (l[k] ≠ m[k] → l ≠ m) := fun h e => h (by subst e; rfl)
        generalize hp : l[k] = p at *
        generalize hq : m[k] = q at *
        obtain ⟨b, hb⟩ : ∃ b, enE p q = b := ⟨_, rfl⟩
        obtain ⟨_, E2, E3⟩ := eqEn p q b hb
        rw [show enV q = .agg (enC q).toArray from rfl, show enV p = .agg (enC p).toArray from rfl] at E2 E3
        have HQL : Hid ((enC q).length = 11) := enC_length _
        have HPL : Hid ((enC p).length = 11) := enC_length _
        have HBB : Hid (b = true ↔ p = q) := by rw [← hb]; exact enE_true
        generalize hqc : enC q = qc at *
        generalize hpc : enC p = pc at *
        have HE2 := Lib.hid E2
        have HE3 := Lib.hid E3
        have ic1 : (Try.prog.info? 78).map (·.size) = some pc.length := by rw [HPL.out]; exact ICZ.out
        have ic2 : (Try.prog.info? 78).map (·.size) = some qc.length := by rw [HQL.out]; exact ICZ.out
        clear hrng hrng' hq hp hb E2 E3 hqc hpc hg hg'
        go_wp2_with fail
        refine wp_region_noPanic ?_
        refine wp_region_held_drew (S := fun w' => w'.rangeAt g (off + k * 11) pc ∧ w'.rangeAt g' (off' + k * 11) qc) (by kernel_rfl) ⟨HRG.out, HRG2.out⟩ (fun hS0 => ?_)
        have HS0 := Lib.hid hS0
        have HB1 : Hid (Below w.heap.size w wr.drew) := HBR.out.drew
        clear hS0 HBR
        generalize wr.drew = v0 at *
        refine take_val 0 (.slice (some ⟨g, off, none⟩) l.length ca) rfl (by kernel_rfl) (by kernel_rfl) (by kernel_rfl) (fun _ _ _ _ h => h) (by rfl) rfl (fun w _ => by go_simp) HS0.out ?_
        try simp only [List.set_cons_zero, List.set_cons_succ]
        refine take_val 1 (.int .i64 (k : Int)) rfl (by kernel_rfl) (by kernel_rfl) (by kernel_rfl) (fun _ _ _ _ h => h) (by rfl) rfl (fun w _ => by go_simp) HS0.out ?_
        try simp only [List.set_cons_zero, List.set_cons_succ]
        refine take_val 2 (.pointer (some ⟨g, off + k * 11, none⟩)) rfl (by kernel_rfl) (by kernel_rfl) (by kernel_rfl) (fun _ _ _ _ h => h) (by rfl) rfl (fun w _ => by go_simp) HS0.out ?_
        try simp only [List.set_cons_zero, List.set_cons_succ]
        refine take_row 3 rfl (by kernel_rfl) (by kernel_rfl) (by kernel_rfl) (fun _ _ _ _ h => h) (by rfl) rfl rfl rfl (fun _ hS => hS.1) hu rfl ic1 HS0.out ?_
        try simp only [List.set_cons_zero, List.set_cons_succ]
        refine take_val 4 (.slice (some ⟨g', off', none⟩) m.length cb) rfl (by kernel_rfl) (by kernel_rfl) (by kernel_rfl) (fun _ _ _ _ h => h) (by rfl) rfl (fun w _ => by go_simp) HS0.out ?_
        try simp only [List.set_cons_zero, List.set_cons_succ]
        refine take_val 5 (.int .i64 (k : Int)) rfl (by kernel_rfl) (by kernel_rfl) (by kernel_rfl) (fun _ _ _ _ h => h) (by rfl) rfl (fun w _ => by go_simp) HS0.out ?_
        try simp only [List.set_cons_zero, List.set_cons_succ]
        refine take_val 6 (.pointer (some ⟨g', off' + k * 11, none⟩)) rfl (by kernel_rfl) (by kernel_rfl) (by kernel_rfl) (fun _ _ _ _ h => h) (by rfl) rfl (fun w _ => by go_simp) HS0.out ?_
        try simp only [List.set_cons_zero, List.set_cons_succ]
        refine take_row 7 rfl (by kernel_rfl) (by kernel_rfl) (by kernel_rfl) (fun _ _ _ _ h => h) (by rfl) rfl rfl rfl (fun _ hS => hS.2) hu rfl ic2 HS0.out ?_
        try simp only [List.set_cons_zero, List.set_cons_succ]
        refine take_val 8 (.bool !b) rfl (by kernel_rfl) (by kernel_rfl) (by kernel_rfl) (fun _ _ _ _ h => h) (by rfl) rfl (fun w _ => val_binE rfl rfl rfl (HE2.out w) (HE3.out _ _ _ w)) HS0.out ?_
        try simp only [List.set_cons_zero, List.set_cons_succ]
        refine wpAnyH_done (by kernel_rfl) ?_ _
        refine NoPanic.normal ?_
        cases b with
        | true =>
          have HN := Lib.hid (HST.out (HBB.out.1 rfl))
          clear HBB HST HNE
          go_wp2_with fail
          go_roundw
          case rel => exact ⟨k + 1, by omega, by go_num, HB1.out, HN.out⟩
          case measure => simp [intOf]; omega
        | false =>
          have HN := Lib.hid (HNE.out (fun h => by have := HBB.out.2 h; cases this))
          clear HBB HST HNE
          go_wp2_with fail
          go_ret
          exact ⟨⟨false, rfl, fun h => (by cases h), fun h => absurd h HN.out⟩, HB1.out⟩
      · have m1 : ¬ (k : Int) < (l.length : Int) := by omega
        have HE : Hid (l = m) := by
          have h := HALL.out
          have := HLEN.out
          show _ = _
          rwa [List.take_of_length_le (by omega), List.take_of_length_le (by omega)] at h
        go_wp2_with fail
        go_ret
        exact ⟨⟨true, rfl, fun _ => HE.out, fun _ => rfl⟩, HBR.out⟩
  · have f1 : ((l.length : Int) != (m.length : Int)) = true := by simp; omega
    have HE : Hid (l ≠ m) := fun h => hlen (by rw [h])
    clear hlen
    go_enter Try.func66, Try.ntmps66
    go_wp2_with fail
    go_ret
    exact ⟨⟨false, rfl, fun h => (by cases h), fun h => absurd h HE.out⟩, Below.refl _ _⟩
end Go.Proofs.Ytinjnclpiiohcaa
