/- Joined: ItemsEq, Walked. -/
import Derived.Test.YtbfoonfbhebhfaaGreatDoorKGnE
import Derived.Test.YtbfoonfbhebhfaaGreatDoorKGnG
import Derived.Test.YtbfoonfbhebhfaaGreatDoorKGnJ
import Derived.Lib.LazyBuf
import Derived.Test.YtbfoonfbhebhfaaGreatDoorKGoE
import Derived.Test.YtbfoonfbhebhfaaGreatDoorKGoF
import Derived.Test.YtbfoonfbhebhfaaGreatDoorKGoH
import Derived.Test.YtbfoonfbhebhfaaGreatDoorKGoI
namespace Go.Proofs.YtbfoonfbhebhfaaGreatDoor
open Go.RowKit Plain
theorem val_binE {P : Program} {o : Oper} {a : Act} {x y : Operand} {t t2 : TypeId} {bo : BinOp} {u v : Value} {b : Bool} {w : World} (ho : o.op = .binOp bo t x y t2) (hx : a.eval x = u) (hy : a.eval y = v) (hr : (binOp bo t u v).run P w = .ok (.bool b) w) (hg : (eqGuard bo t x y u v).run P w = .ok () w) : (execOp a.eval o).run P w = .ok (.value (.bool b)) w := by
 unfold execOp
 simp only [ho, hx, hy, Sem.run_bind, hr, hg, Sem.run_pure, Result.andThen_ok]
def EqIEnd (w0 : World) (l m : List It) (e : Ending) (w : World) : Prop := (∃ r : Bool, e = .returned (.bool r) ∧ (r = true ↔ l = m)) ∧ Below w0.heap.size w0 w
set_option maxRecDepth 100000 in
set_option maxHeartbeats 2000000 in
theorem eqIts_any (a b : Option Addr) (ca cb : Nat) (l m : List It) (w : World) (hl : SAt 5 iC w a l) (hm : SAt 5 iC w b m) (nl : l.length ≤ 9223372036854775807) (nm : m.length ≤ 9223372036854775807) :
  Calls Tryz.prog 16 #[.slice a l.length ca, .slice b m.length cb] w (EqIEnd w l m) := by
 have HL := Lib.hid hl
 have HM := Lib.hid hm
 have hu := Tryz.underlying40
 have ICZ : Hid ((Tryz.prog.info? 40).map (·.size) = some 5) := by show _ = _; kernel_rfl
 clear hl hm
 by_cases hlen : l.length = m.length
 ·
  have f1 : ((l.length : Int) != (m.length : Int)) = false := by simp [hlen]
  have HLEN := Lib.hid hlen
  clear hlen
  go_enter Tryz.func16, Tryz.ntmps16
  go_wp2_with fail
  go_loopw [13] (fun iv wr => ∃ i : Nat, i ≤ l.length ∧ iv = .int .i64 (i : Int) ∧ Below w.heap.size w wr ∧ l.take i = m.take i) (fun iv _ => l.length - (intOf iv).toNat)
  case atStart => exact ⟨0, by omega, rfl, Below.refl _ _, by simp⟩
  case round =>
   obtain ⟨k, hi, rfl, hbr, hall⟩ := hrel
   have HBR := Lib.hid hbr
   have HALL := Lib.hid hall
   clear hbr hall
   by_cases hlt : k < l.length
   ·
    have kk : (k : Int) < (l.length : Int) := by omega
    have k0 : (0 : Int) ≤ (k : Int) := Int.natCast_nonneg _
    have hlt2 : k < m.length := by have := HLEN.out; omega
    have kk2 : (k : Int) < (m.length : Int) := by omega
    obtain ⟨g, off, rfl, hg, hrng⟩ := (HL.out.below HBR.out) k hlt
    obtain ⟨g', off', rfl, hg', hrng'⟩ := (HM.out.below HBR.out) k hlt2
    have HRG := Lib.hid hrng
    have HRG2 := Lib.hid hrng'
    have HST : Hid (l[k] = m[k] → l.take (k + 1) = m.take (k + 1)) := fun h => by rw [List.take_succ_eq_append_getElem hlt, List.take_succ_eq_append_getElem hlt2, HALL.out, h]
    have HNE : Hid (l[k] ≠ m[k] → l ≠ m) := fun h e => h (by subst e; rfl)
    generalize hp : l[k] = p at *
    generalize hq : m[k] = q at *
    obtain ⟨b, hb⟩ : ∃ b, decide (p = q) = b := ⟨_, rfl⟩
    obtain ⟨_, E2, E3⟩ := eqIt p q b hb
    have HQL : Hid ((iC q).length = 5) := iC_length _
    have HPL : Hid ((iC p).length = 5) := iC_length _
    have HBB : Hid (b = true ↔ p = q) := by rw [← hb]; exact decide_eq_true_iff
    generalize hqc : iC q = qc at *
    generalize hpc : iC p = pc at *
    have HE2 := Lib.hid E2
    have HE3 := Lib.hid E3
    have ic1 : (Tryz.prog.info? 40).map (·.size) = some pc.length := by rw [HPL.out]; exact ICZ.out
    have ic2 : (Tryz.prog.info? 40).map (·.size) = some qc.length := by rw [HQL.out]; exact ICZ.out
    clear hrng hrng' hq hp hb E2 E3 hqc hpc hg hg'
    go_wp2_with fail
    refine wp_region_noPanic ?_
    refine wp_region_held_drew (S := fun w' => w'.rangeAt g (off + k * 5) pc ∧ w'.rangeAt g' (off' + k * 5) qc) (by kernel_rfl) ⟨HRG.out, HRG2.out⟩ (fun hS0 => ?_)
    have HS0 := Lib.hid hS0
    have HB1 : Hid (Below w.heap.size w wr.drew) := HBR.out.drew
    clear hS0 HBR
    generalize wr.drew = v0 at *
    refine take_val 0 (.slice (some ⟨g, off, none⟩) l.length ca) rfl (by kernel_rfl) (by kernel_rfl) (by kernel_rfl) (fun _ _ _ _ h => h) (by rfl) rfl (fun w _ => by go_simp) HS0.out ?_
    try simp only [List.set_cons_zero, List.set_cons_succ]
    refine take_val 1 (.int .i64 (k : Int)) rfl (by kernel_rfl) (by kernel_rfl) (by kernel_rfl) (fun _ _ _ _ h => h) (by rfl) rfl (fun w _ => by go_simp) HS0.out ?_
    try simp only [List.set_cons_zero, List.set_cons_succ]
    refine take_val 2 (.pointer (some ⟨g, off + k * 5, none⟩)) rfl (by kernel_rfl) (by kernel_rfl) (by kernel_rfl) (fun _ _ _ _ h => h) (by rfl) rfl (fun w _ => by go_simp) HS0.out ?_
    try simp only [List.set_cons_zero, List.set_cons_succ]
    refine take_row 3 rfl (by kernel_rfl) (by kernel_rfl) (by kernel_rfl) (fun _ _ _ _ h => h) (by rfl) rfl rfl rfl (fun _ hS => hS.1) hu rfl ic1 HS0.out ?_
    try simp only [List.set_cons_zero, List.set_cons_succ]
    refine take_val 4 (.slice (some ⟨g', off', none⟩) m.length cb) rfl (by kernel_rfl) (by kernel_rfl) (by kernel_rfl) (fun _ _ _ _ h => h) (by rfl) rfl (fun w _ => by go_simp) HS0.out ?_
    try simp only [List.set_cons_zero, List.set_cons_succ]
    refine take_val 5 (.int .i64 (k : Int)) rfl (by kernel_rfl) (by kernel_rfl) (by kernel_rfl) (fun _ _ _ _ h => h) (by rfl) rfl (fun w _ => by go_simp) HS0.out ?_
    try simp only [List.set_cons_zero, List.set_cons_succ]
    refine take_val 6 (.pointer (some ⟨g', off' + k * 5, none⟩)) rfl (by kernel_rfl) (by kernel_rfl) (by kernel_rfl) (fun _ _ _ _ h => h) (by rfl) rfl (fun w _ => by go_simp) HS0.out ?_
    try simp only [List.set_cons_zero, List.set_cons_succ]
    refine take_row 7 rfl (by kernel_rfl) (by kernel_rfl) (by kernel_rfl) (fun _ _ _ _ h => h) (by rfl) rfl rfl rfl (fun _ hS => hS.2) hu rfl ic2 HS0.out ?_
    try simp only [List.set_cons_zero, List.set_cons_succ]
    refine take_val 8 (.bool !b) rfl (by kernel_rfl) (by kernel_rfl) (by kernel_rfl) (fun _ _ _ _ h => h) (by rfl) rfl (fun w _ => val_binE rfl rfl rfl (HE2.out w) (HE3.out _ _ _ w)) HS0.out ?_
    try simp only [List.set_cons_zero, List.set_cons_succ]
    refine wpAnyH_done (by kernel_rfl) ?_ _
    refine NoPanic.normal ?_
    cases b with
    | true =>
     have HN := Lib.hid (HST.out (HBB.out.1 rfl))
     clear HBB HST HNE
     go_wp2_with fail
     go_roundw
     case rel => exact ⟨k + 1, by omega, by go_num, HB1.out, HN.out⟩
     case measure => simp [intOf]; omega
    | false =>
     have HN := Lib.hid (HNE.out (fun h => by have := HBB.out.2 h; cases this))
     clear HBB HST HNE
     go_wp2_with fail
     go_ret
     exact ⟨⟨false, rfl, fun h => (by cases h), fun h => absurd h HN.out⟩, HB1.out⟩
   ·
    have m1 : ¬ (k : Int) < (l.length : Int) := by omega
    have HE : Hid (l = m) := by
     have h := HALL.out
     have := HLEN.out
     show _ = _
     rwa [List.take_of_length_le (by omega), List.take_of_length_le (by omega)] at h
    go_wp2_with fail
    go_ret
    exact ⟨⟨true, rfl, fun _ => HE.out, fun _ => rfl⟩, HBR.out⟩
 ·
  have f1 : ((l.length : Int) != (m.length : Int)) = true := by simp; omega
  have HE : Hid (l ≠ m) := fun h => hlen (by rw [h])
  clear hlen
  go_enter Tryz.func16, Tryz.ntmps16
  go_wp2_with fail
  go_ret
  exact ⟨⟨false, rfl, fun h => (by cases h), fun h => absurd h HE.out⟩, Below.refl _ _⟩
end Go.Proofs.YtbfoonfbhebhfaaGreatDoor
namespace Go.Proofs.YtbfoonfbhebhfaaGreatDoor
open Go.RowKit Plain Go.Maps Go.ChangeMaps
set_option linter.unusedVariables false
set_option linter.unusedSimpArgs false
set_option maxRecDepth 100000 in
theorem someWay_any (w : World) : Calls Tryz.prog 30 #[] w fun e w' => e = .returned (.agg #[.int .i64 16, .int .i64 0, .int .i64 0, .int .i64 0]) ∧ Below w.heap.size w w' := by
 go_enter Tryz.func30, Tryz.ntmps30
 go_wp2_with fail
 exact bodyPost_ret (results_cell_row (p := 0) (ty := 25) rfl _ _ w.heap.size 25 _ (0, 0) _ rfl (heap_alloc_new w _) Tryz.underlying25 rfl (by kernel_rfl)) rfl ⟨rfl, (Below.refl _ _).alloc (Nat.le_refl _) _⟩
theorem own_satW {α : Type} {c : α → List Value} {w : World} {base k : Nat} {a : Option Addr} {cc : Nat} {l : List α} {T : TypeId} (hc : ∀ y, (c y).length = k) (h : w.ownsRow base T k (.slice a l.length cc) l.length (l.flatMap c)) : SAt k c w a l := by
 obtain ⟨a', c', e, h1, h2, hs⟩ := SAt.own h hc
 injection e with e1 _ e3
 subst e1
 exact hs
def PlE (y : Wy) (wl : List It) (w0 : World) (e : Ending) (w : World) : Prop := Below w0.heap.size w0 w ∧
 ((∃ (out : List Bl) (i0 i1 i2 i3 i4 i5 i6 i7 : Nat) (oa : Option Addr) (oc : Nat), Planted y wl out [i0, i1, i2, i3, i4, i5, i6, i7] ∧ e = .returned (.tuple #[.slice oa out.length oc, .agg #[.int .u8 (i0 : Int), .int .u8 (i1 : Int), .int .u8 (i2 : Int), .int .u8 (i3 : Int), .int .u8 (i4 : Int), .int .u8 (i5 : Int), .int .u8 (i6 : Int), .int .u8 (i7 : Int)], .int .i64 0]) ∧ SAt 2 blC w oa out ∧ w.ownsRow w0.heap.size 37 2 (.slice oa out.length oc) out.length (out.flatMap blC) ∧ out.length ≤ 40000) ∨
  (∃ c : Int, c ≠ 0 ∧ e = .returned (.tuple #[.slice none 0 0, .agg #[.int .u8 0, .int .u8 0, .int .u8 0, .int .u8 0, .int .u8 0, .int .u8 0, .int .u8 0, .int .u8 0], .int .i64 c]) ∧ ∀ out id, ¬ Planted y wl out id))
theorem PlntEnd.letters {y : Wy} {wl : List It} {w0 w : World} {e : Ending} (h : PlntEnd y wl w0 e w) : PlE y wl w0 e w := by
 obtain ⟨⟨out, id, oa, oc, hp, rfl, ho, hl⟩ | ⟨c, hc, rfl, hn⟩, hb⟩ := h
 ·
  have h8 : id.length = 8 := by obtain ⟨_, _, t, S, _, _, rfl⟩ := hp; exact pidL_length _
  obtain ⟨i0, i1, i2, i3, i4, i5, i6, i7, rfl⟩ := list8W h8
  exact ⟨hb, .inl ⟨out, i0, i1, i2, i3, i4, i5, i6, i7, oa, oc, hp, rfl, own_satW blC_length ho, ho, hl⟩⟩
 ·
  exact ⟨hb, .inr ⟨c, hc, rfl, hn⟩⟩
theorem plantE (fx mn mx bt : Int) (wa : Option Addr) (cap : Nat) (wl : List It) (m : Int) (w : World) (hs : SAt 5 iC w wa wl) (hl : wl.length ≤ 9223372036854775807) (hsz : ∀ x ∈ wl, x.1.size ≤ 1048576) (ht : TmOk wl) (hm : MaxL m w) (hT : Tabs w) (hMC : MaxC w) :
  Calls Tryz.prog 13 #[.agg #[.int .i64 fx, .int .i64 mn, .int .i64 mx, .int .i64 bt], .slice wa wl.length cap] w (PlE (fx, mn, mx, bt) wl w) :=
 (plant_any fx mn mx bt wa cap wl m w hs hl hsz ht hm hT hMC).mono fun _ _ h => h.letters
theorem sw_size : ∀ x ∈ swL, x.1.size ≤ 1048576 := by
 intro x hx
 unfold swL at hx
 simp only [List.mem_cons, List.not_mem_nil, or_false] at hx
 rcases hx with rfl | rfl <;> decide
set_option maxRecDepth 100000 in
set_option maxHeartbeats 1000000 in
theorem walked_any (m : Int) (w : World) (hm : MaxL m w) (hT : Tabs w) (hMC : MaxC w) : Calls Tryz.prog 12 #[] w fun e w' => e = .returned (.bool true) ∧ Below w.heap.size w w' := by
 have HM := Lib.hid hm
 have HT := Lib.hid hT
 have HMC := Lib.hid hMC
 clear hm hT hMC
 obtain ⟨L, hL⟩ : ∃ L, swL = L := ⟨_, rfl⟩
 have HLP := Lib.hid sw_planted
 have HLZ := Lib.hid sw_size
 have HLT := Lib.hid sw_tm
 have HLL : Hid (swL.length = 2) := Lib.hid rfl
 have HSW := Lib.hid fun u => someWorld_any u
 unfold SwEnd at HSW
 rw [hL] at HLP HLZ HLT HLL HSW
 clear hL
 go_enter Tryz.func12, Tryz.ntmps12
 go_wp2_with fail
 refine (someWay_any _).mono ?_
 rintro e w1 ⟨rfl, hb1⟩
 have HB1 := Lib.hid hb1
 clear hb1
 go_wp2_with fail
 refine (HSW.out _).mono ?_
 rintro e w2 ⟨hb2, a2, rfl, hs2⟩
 have HB2 := Lib.hid (HB1.out.trans (hb2.mono HB1.out.size))
 have HS2 := Lib.hid hs2
 clear hb2 hs2
 go_wp2_with fail
 refine (plantE 16 0 0 0 a2 2 L m w2 HS2.out (by have := HLL.out; omega) HLZ.out HLT.out (HM.out.below HB2.out) (HT.out.below HB2.out) (HMC.out.below HB2.out)).mono ?_
 rintro e w3 ⟨hb3, ⟨out, i0, i1, i2, i3, i4, i5, i6, i7, oa, oc, hp, rfl, hs3, _, _⟩ | ⟨c, _, _, hno⟩⟩
 ·
  obtain ⟨ho, hid⟩ := hp.unique HLP.out
  have h4 : out.length = 4 := by rw [ho]; rfl
  have HP := Lib.hid hp
  have HB3 := Lib.hid (HB2.out.trans (hb3.mono HB2.out.size))
  have hba := (Below.refl w3.heap.size w3).alloc (Nat.le_refl _) (.cells #[.int .u8 (i0 : Int), .int .u8 (i1 : Int), .int .u8 (i2 : Int), .int .u8 (i3 : Int), .int .u8 (i4 : Int), .int .u8 (i5 : Int), .int .u8 (i6 : Int), .int .u8 (i7 : Int)] 30)
  have HB4 := Lib.hid (HB3.out.trans (hba.mono HB3.out.size))
  have HTE := Lib.hid (hp.tellsL HLT.out hp.ids.cons (fun b hb => hb))
  have HS3 := Lib.hid (hs3.below hba)
  have HC := Lib.hid hp.ids.cons
  have h4i : (out.length : Int) = 4 := by omega
  have HR := Lib.hid (reap_any oa oc out i0 i1 i2 i3 i4 i5 i6 i7 L (w3.alloc (.cells #[.int .u8 (i0 : Int), .int .u8 (i1 : Int), .int .u8 (i2 : Int), .int .u8 (i3 : Int), .int .u8 (i4 : Int), .int .u8 (i5 : Int), .int .u8 (i6 : Int), .int .u8 (i7 : Int)] 30)) HS3.out (by omega) HC.out HTE.out (by have := HLL.out; omega) (HT.out.below HB4.out))
  clear ho hid h4 hp hb3 hba hs3
  go_wp2_with fail
  refine HR.out.mono ?_
  rintro e w5 ⟨hb5, ra, rc, rfl, how⟩
  have HB5 := Lib.hid (HB4.out.trans (hb5.mono HB4.out.size))
  have HS5 := Lib.hid (own_satW iC_length how)
  clear hb5 how HR
  go_wp2_with fail
  refine (HSW.out _).mono ?_
  rintro e w6 ⟨hb6, a6, rfl, hs6⟩
  have HB6 := Lib.hid (HB5.out.trans (hb6.mono HB5.out.size))
  have HS6 := Lib.hid hs6
  have HS56 := Lib.hid (HS5.out.below hb6)
  clear hb6 hs6
  go_wp2_with fail
  refine (eqIts_any ra a6 rc 2 L L w6 HS56.out HS6.out (by have := HLL.out; omega) (by have := HLL.out; omega)).mono ?_
  rintro e w7 ⟨⟨r, rfl, hr⟩, hb7⟩
  obtain rfl : r = true := hr.2 rfl
  have HB7 := Lib.hid (HB6.out.trans (hb7.mono HB6.out.size))
  clear hb7 hr
  go_wp2_with fail
  go_ret
  exact ⟨rfl, HB7.out⟩
 ·
  exact absurd HLP.out (hno _ _)
end Go.Proofs.YtbfoonfbhebhfaaGreatDoor
