/- Joined: WalkIdx, WalkSl. -/
import Derived.Test.YtbfoonfbhebhfaaGreatDoorKGnZ
import Derived.Test.YtbfoonfbhebhfaaGreatDoorKGnJ
import Derived.Test.YtbfoonfbhebhfaaGreatDoorKGnP
import Derived.ChangeKeysEq
import Derived.Laws.StructEq
import Derived.Test.YtbfoonfbhebhfaaGreatDoorKGnU
import Derived.Test.YtbfoonfbhebhfaaGreatDoorKGoA
namespace Go.Proofs.YtbfoonfbhebhfaaGreatDoor
open Go.RowKit Plain Go.Maps Go.ChangeMaps
set_option linter.unusedVariables false
set_option linter.unusedSimpArgs false
theorem val_binX {P : Program} {o : Oper} {a : Act} {x y : Operand} {t t2 : TypeId} {bo : BinOp} {u v : Value} {b : Bool} {w : World} (ho : o.op = .binOp bo t x y t2) (hx : a.eval x = u) (hy : a.eval y = v) (hr : (binOp bo t u v).run P w = .ok (.bool b) w) (hg : (eqGuard bo t x y u v).run P w = .ok () w) : (execOp a.eval o).run P w = .ok (.value (.bool b)) w := by
 unfold execOp
 simp only [ho, hx, hy, Sem.run_bind, hr, hg, Sem.run_pure, Result.andThen_ok]
def idK (x : List Nat) : List Value := x.map bV
def IdsL (l : List (List Nat)) : Prop := ∀ x ∈ l, x.length = 8
theorem sizeK_id (x : List Nat) (h : x.length = 8) : (idK x).length = 8 := by simp [idK, h]
set_option maxRecDepth 100000 in
theorem eqK_id (x z : List Nat) (hx : x.length = 8) (hz : z.length = 8) : (∀ wx, (binOp .eql 30 (.agg (idK x).toArray) (.agg (idK z).toArray)).run Tryz.prog wx = .ok (.bool (decide (x = z))) wx) ∧ ∀ (o : BinOp) (a b : Operand) (wx : World), (eqGuard o 30 a b (.agg (idK x).toArray) (.agg (idK z).toArray)).run Tryz.prog wx = .ok () wx := by
 refine ⟨fun wx => ?_, fun o a b wx => run_eqGuard_agg wx o _ a b _ _ (by kernel_rfl)⟩
 exact eql_id8 wx x z hx hz
theorem eqFields_consW {P : Program} {w : World} {d : Nat} {xs ys : Array Value} {f : Field} {fs : List Field} {a b : Value} {r : Bool} (hn : f.name ≠ "_") (h1 : (part f.type xs f.offset).run P w = .ok a w) (h2 : (part f.type ys f.offset).run P w = .ok b w) (h3 : (Op.equalIn d f.type a b).run P w = .ok r w) :
  (Op.eqFields d xs ys (f :: fs)).run P w = if r = true then (Op.eqFields d xs ys fs).run P w else .ok false w := by
 simp only [Op.eqFields, hn, ne_eq, not_false_eq_true, if_true, Sem.run_bind, h1, h2, h3, Result.andThen_ok]
 cases r <;> rfl
theorem part_intW (xs : Array Value) (w : World) (off : Nat) (n : Int) (h : xs[off]? = some (.int .i64 n)) : (part 3 xs off).run Tryz.prog w = .ok (.int .i64 n) w := run_part_plain w (by kernel_rfl) h
theorem part_strW (xs : Array Value) (w : World) (off : Nat) (s : ByteArray) (h : xs[off]? = some (.string s)) : (part 9 xs off).run Tryz.prog w = .ok (.string s) w := run_part_plain w (by kernel_rfl) h
set_option maxRecDepth 100000 in
set_option maxHeartbeats 4000000 in
theorem eqIn_blW (d : Nat) (w : World) (k k2 : Int) (s s2 : ByteArray) : (Op.equalIn (d + 3) 37 (.agg #[.int .i64 k, .string s]) (.agg #[.int .i64 k2, .string s2])).run Tryz.prog w = .ok (decide ((k, s) = (k2, s2))) w := by
 have hu := Tryz.underlying37
 rw [run_equalIn_struct w (d + 2) 37 _ _ (by simp only [Program.fieldsOf, hu]) (by kernel_rfl)]
 simp only [Program.fieldsOf, hu]
 rw [eqFields_consW (by decide) (part_intW _ w 0 k rfl) (part_intW _ w 0 k2 rfl) (run_equalIn_int w (d + 1) _ .i64 .i64 _ _ Tryz.underlying3)]
 rw [eqFields_consW (by decide) (part_strW _ w 1 s rfl) (part_strW _ w 1 s2 rfl) (run_equalIn_string w (d + 1) _ _ _ Tryz.underlying9)]
 by_cases e1 : k = k2
 ·
  by_cases e2 : s = s2
  ·
   have : (s.toList == s2.toList) = true := by subst e2; simp
   simp [e1, this, Op.eqFields, e2]
  ·
   have : (s.toList == s2.toList) = false := str_neW e2
   simp [e1, this, Op.eqFields, e2]
 ·
  have : (k == k2) = false := beq_eq_false_iff_ne.2 e1
  simp [e1, this]
theorem row_rangeI {w : World} {b : Nat} {t : TypeId} {l : List Value} (h : w.heap[b]? = some (.cells l.toArray t (0, 0))) : w.rangeAt b 0 l := fun j v hj => by
 rw [Nat.zero_add, cell_of_row _ _ _ _ _ _ h]
 simpa using hj
set_option maxRecDepth 100000 in
set_option maxHeartbeats 2000000 in
theorem indexId_any (a : Option Addr) (cap : Nat) (l : List (List Nat)) (p : List Nat) (hp : p.length = 8) (hk : IdsL l) (w : World) (h : SAt 8 idK w a l) (hl : l.length ≤ 9223372036854775807) :
  Calls Tryz.prog 77 #[.slice a l.length cap, .agg (idK p).toArray] w fun e w' => ((∃ i : Nat, e = .returned (.int .i64 (i : Int)) ∧ p ∈ l) ∨ (e = .returned (.int .i64 (-1)) ∧ p ∉ l)) ∧ Below w.heap.size w w' := by
 have HS := Lib.hid h
 have HB0 := Lib.hid ((Below.refl w.heap.size w).alloc (Nat.le_refl _) (.cells (idK p).toArray 30))
 have HR0 := Lib.hid (heap_alloc_new w (.cells (idK p).toArray 30))
 have hu := Tryz.underlying30
 have ICZ : Hid ((Tryz.prog.info? 30).map (·.size) = some 8) := Lib.hid (by show _ = _; kernel_rfl)
 have HPL : Hid ((idK p).length = 8) := Lib.hid (sizeK_id p hp)
 have HEQ := Lib.hid fun (q : List Nat) (hq : q.length = 8) => eqK_id p q hp hq
 have HP : Hid (p = p) := Lib.hid rfl
 have HK := Lib.hid hk
 generalize hpc : idK p = pc at *
 clear h hpc
 go_enter Tryz.func77, Tryz.ntmps77
 go_wp2_with fail
 generalize w.alloc (.cells pc.toArray 30) = w1 at *
 go_loopw [8] (fun iv wr => ∃ k : Nat, k ≤ l.length ∧ iv = .int .i64 (k : Int) ∧ (∀ j (h : j < l.length), j < k → l[j] ≠ p) ∧ wr.heap[w.heap.size]? = some (.cells pc.toArray 30 (0, 0)) ∧ Below w.heap.size w wr) (fun iv _ => l.length - (intOf iv).toNat)
 case atStart => exact ⟨0, Nat.zero_le _, rfl, fun j h hj => absurd hj (Nat.not_lt_zero _), HR0.out, HB0.out⟩
 case round =>
  obtain ⟨k, hk, rfl, hno, hrow, hbx⟩ := hrel
  have HNO := Lib.hid hno
  have HROW := Lib.hid hrow
  have HBX := Lib.hid hbx
  clear hno hrow hbx HB0 HR0
  by_cases hlt : k < l.length
  ·
   have kk : (k : Int) < (l.length : Int) := by omega
   have k0 : (0 : Int) ≤ (k : Int) := Int.natCast_nonneg _
   obtain ⟨g, off, rfl, hg, hrng⟩ := (HS.out.below HBX.out) k hlt
   have HRG := Lib.hid hrng
   have HSTEP : Hid (l[k] ≠ p → ∀ j (h : j < l.length), j < k + 1 → l[j] ≠ p) := fun hne j h hj => by
    rcases Nat.lt_or_ge j k with h1 | h1
    ·
     exact HNO.out j h h1
    ·
     obtain rfl : j = k := by omega
     exact hne
   have HMEM : Hid (l[k] ∈ l) := Lib.hid (List.getElem_mem hlt)
   generalize hq : l[k] = q at *
   obtain ⟨E1, E3⟩ := HEQ.out q (HK.out q HMEM.out)
   have HQL : Hid ((idK q).length = 8) := Lib.hid (sizeK_id q (HK.out q HMEM.out))
   obtain ⟨b, hb⟩ : ∃ b, decide (p = q) = b := ⟨_, rfl⟩
   rw [hb] at E1
   have HBB : Hid (b = true ↔ p = q) := Lib.hid (by rw [← hb, decide_eq_true_iff])
   generalize hqc : idK q = qc at *
   have HE1 := Lib.hid E1
   have HE3 := Lib.hid E3
   have ic1 : (Tryz.prog.info? 30).map (·.size) = some pc.length := by rw [HPL.out]; exact ICZ.out
   have ic2 : (Tryz.prog.info? 30).map (·.size) = some qc.length := by rw [HQL.out]; exact ICZ.out
   clear hrng hq hb E1 E3 hqc HEQ
   go_wp2_with fail
   refine wp_region_noPanic ?_
   refine wp_region_held_drew (S := fun w' => w'.rangeAt w.heap.size 0 pc ∧ w'.rangeAt g (off + k * 8) qc) (by kernel_rfl) ⟨row_rangeI (show wr.drew.heap[w.heap.size]? = _ from HROW.out), HRG.out⟩ (fun hS0 => ?_)
   have HS0 := Lib.hid hS0
   have HR1 : Hid (wr.drew.heap[w.heap.size]? = some (.cells pc.toArray 30 (0, 0))) := HROW.out
   have HB1 : Hid (Below w.heap.size w wr.drew) := HBX.out.drew
   clear hS0 HROW HBX
   generalize wr.drew = v0 at *
   refine take_row 0 rfl (by kernel_rfl) (by kernel_rfl) (by kernel_rfl) (fun _ _ _ _ h => h) (by rfl) rfl rfl rfl (fun _ hS => hS.1) hu rfl ic1 HS0.out ?_
   try simp only [List.set_cons_zero, List.set_cons_succ]
   refine take_val 1 (.slice (some ⟨g, off, none⟩) l.length cap) rfl (by kernel_rfl) (by kernel_rfl) (by kernel_rfl) (fun _ _ _ _ h => h) (by rfl) rfl (fun w _ => by go_simp) HS0.out ?_
   try simp only [List.set_cons_zero, List.set_cons_succ]
   refine take_val 2 (.int .i64 (k : Int)) rfl (by kernel_rfl) (by kernel_rfl) (by kernel_rfl) (fun _ _ _ _ h => h) (by rfl) rfl (fun w _ => by go_simp) HS0.out ?_
   try simp only [List.set_cons_zero, List.set_cons_succ]
   refine take_val 3 (.pointer (some ⟨g, off + k * 8, none⟩)) rfl (by kernel_rfl) (by kernel_rfl) (by kernel_rfl) (fun _ _ _ _ h => h) (by rfl) rfl (fun w _ => by go_simp) HS0.out ?_
   try simp only [List.set_cons_zero, List.set_cons_succ]
   refine take_row 4 rfl (by kernel_rfl) (by kernel_rfl) (by kernel_rfl) (fun _ _ _ _ h => h) (by rfl) rfl rfl rfl (fun _ hS => hS.2) hu rfl ic2 HS0.out ?_
   try simp only [List.set_cons_zero, List.set_cons_succ]
   refine take_val 5 (.bool b) rfl (by kernel_rfl) (by kernel_rfl) (by kernel_rfl) (fun _ _ _ _ h => h) (by rfl) rfl (fun w _ => val_binX rfl rfl rfl (HE1.out w) (HE3.out _ _ _ w)) HS0.out ?_
   try simp only [List.set_cons_zero, List.set_cons_succ]
   refine wpAnyH_done (by kernel_rfl) ?_ _
   refine NoPanic.normal ?_
   cases b with
   | true =>
    have HIN : Hid (p ∈ l) := Lib.hid (by rw [HBB.out.1 rfl]; exact HMEM.out)
    clear HBB
    go_wp2_with fail
    go_ret
    exact ⟨.inl ⟨k, rfl, HIN.out⟩, HB1.out⟩
   | false =>
    have HN := Lib.hid (HSTEP.out (fun h => by have := HBB.out.2 h.symm; cases this))
    clear HBB HSTEP
    go_wp2_with fail
    go_roundw
    case rel => exact ⟨k + 1, by omega, by go_num, HN.out, HR1.out, HB1.out⟩
    case measure => simp [intOf]; omega
  ·
   have kk : ¬ (k : Int) < (l.length : Int) := by omega
   have HNI : Hid (p ∉ l) := Lib.hid fun hm => by
    obtain ⟨j, hj, e⟩ := List.mem_iff_getElem.1 hm
    exact HNO.out j hj (by omega) e
   go_wp2_with fail
   go_ret
   exact ⟨.inr ⟨rfl, HNI.out⟩, HBX.out⟩
set_option maxRecDepth 100000 in
theorem containsId_any (a : Option Addr) (cap : Nat) (l : List (List Nat)) (p : List Nat) (hp : p.length = 8) (hk : IdsL l) (w : World) (h : SAt 8 idK w a l) (hl : l.length ≤ 9223372036854775807) :
  Calls Tryz.prog 64 #[.slice a l.length cap, .agg (idK p).toArray] w fun e w' => (∃ r : Bool, e = .returned (.bool r) ∧ (r = true ↔ p ∈ l)) ∧ Below w.heap.size w w' := by
 have HB0 := Lib.hid ((Below.refl w.heap.size w).alloc (Nat.le_refl _) (.cells (idK p).toArray 30))
 have HI := Lib.hid (indexId_any a cap l p hp hk (w.alloc (.cells (idK p).toArray 30)) (h.below HB0.out) hl)
 have HR0 := Lib.hid (heap_alloc_new w (.cells (idK p).toArray 30))
 have HPL : Hid ((idK p).length = 8) := Lib.hid (sizeK_id p hp)
 have ICZ : Hid ((Tryz.prog.info? 30).map (·.size) = some 8) := Lib.hid (by show _ = _; kernel_rfl)
 generalize idK p = pc at *
 have ic1 : Hid ((Tryz.prog.info? 30).map (·.size) = some pc.toArray.size) := Lib.hid (by
  have e : pc.toArray.size = 8 := HPL.out
  rw [e]
  exact ICZ.out)
 clear h hl
 go_enter Tryz.func64, Tryz.ntmps64
 go_wp2_with (with_reducible refine wpList_load_row rfl 30 (.tmp 3) rfl w.heap.size rfl 30 pc.toArray (0, 0) _ HR0.out Tryz.underlying30 rfl ?_ ?_; exact ic1.out)
 refine HI.out.mono ?_
 rintro e w2 ⟨⟨i, rfl, hin⟩ | ⟨rfl, hin⟩, hb⟩
 ·
  have i0 : (0 : Int) ≤ (i : Int) := Int.natCast_nonneg _
  have B := Lib.hid (Below.step HB0.out hb)
  have HD := Lib.hid hin
  clear hb hin
  go_wp2_with fail
  go_ret
  exact ⟨⟨true, rfl, by simp [HD.out]⟩, B.out⟩
 ·
  have B := Lib.hid (Below.step HB0.out hb)
  have HD := Lib.hid hin
  clear hb hin
  go_wp2_with fail
  go_ret
  exact ⟨⟨false, rfl, by simp [HD.out]⟩, B.out⟩
end Go.Proofs.YtbfoonfbhebhfaaGreatDoor
namespace Go.Proofs.YtbfoonfbhebhfaaGreatDoor
open Go.RowKit Plain Go.Maps
set_option linter.unusedVariables false
set_option linter.unusedSimpArgs false
section
variable {P : Program} {w : World}
end
theorem owns_emptyB (w : World) (base : Nat) (e : TypeId) (k : Nat) (h : base ≤ w.heap.size) : (w.alloc (.cells #[] e)).ownsRow base e k (.slice (some ⟨w.heap.size, 0, none⟩) 0 0) 0 [] :=
 ⟨by simp, .inr ⟨w.heap.size, 0, #[], rfl, h, heap_alloc_new w _, by omega, by unfold maxLen; omega, by simp, by simp⟩⟩
def ClnEnd {α : Type} (T : TypeId) (k : Nat) (c : α → List Value) (w0 : World) (l : List α) (e : Ending) (w : World) : Prop := Below w0.heap.size w0 w ∧ ∃ a oc, e = .returned (.slice a l.length oc) ∧ w.ownsRow w0.heap.size T k (.slice a l.length oc) l.length (l.flatMap c)
set_option maxRecDepth 100000 in
theorem cloneBl_any (a : Option Addr) (cap : Nat) (l : List Bl) (w : World) (h : SAt 2 blC w a l) (hl : l.length * 24 ≤ 140737488355328) :
  Calls Tryz.prog 15 #[.slice a l.length cap] w (ClnEnd 37 2 blC w l) := by
 obtain ⟨i0, hi0, hz0, hz1, hz2⟩ := info_parts info_blW
 cases a with
 | none =>
  have hn : l = [] := by
   cases l with
   | nil => rfl
   | cons y l => obtain ⟨g, off, e, _⟩ := h 0 (by simp); cases e
  subst hn
  clear h hl
  have hq := fun u : World => run_eql_slice_nil (P := Tryz.prog) u 28 37 none 0 cap Tryz.underlying28
  go_enter Tryz.func15, Tryz.ntmps15
  go_wp2_with fail
  go_ret
  exact ⟨Below.refl _ _, none, 0, rfl, World.ownsRow_nil _ _ _ _⟩
 | some ad =>
  have HB1 := Lib.hid ((Below.refl w.heap.size w).alloc (Nat.le_refl _) (.cells #[] 37))
  have HS := Lib.hid (h.below HB1.out)
  have HOWN := Lib.hid (owns_emptyB w w.heap.size 37 2 (Nat.le_refl _))
  have D3 : Hid (0 + l.length ≤ maxLen) := by show _ ≤ _; unfold maxLen; omega
  have D4 : Hid ((0 + l.length) * 24 ≤ 140737488355328) := by show _ ≤ _; omega
  have D5 : Hid (w.heap.size ≤ (w.alloc (.cells #[] 37)).heap.size) := HB1.out.size
  clear h hl
  have hq := fun u : World => run_eql_slice_nil (P := Tryz.prog) u 28 37 (some ad) l.length cap Tryz.underlying28
  go_enter Tryz.func15, Tryz.ntmps15
  go_wp2_with (at_builtin; refine wpList_append_sat rfl _ _ 28 rfl w.heap.size 37 i0 (.agg #[.int .i64 0, .string ⟨#[]⟩]) 2 24 Tryz.underlying28 hi0 hz0 hz1 hz2 rfl (by decide) (.slice (some ⟨w.heap.size, 0, none⟩) 0 0) 0 [] rfl HOWN.out (some ad) cap l rfl HS.out (fun _ => rfl) (fun p => blC_one p) D3.out D4.out D5.out ?_)
  intro v' w2 hown' hgrow
  have BW := Lib.hid (below_own HB1.out hgrow HB1.out.size HOWN.out (Nat.le_refl _))
  obtain ⟨oa3, oc3, rfl⟩ := own_formK hown'
  have OW := Lib.hid hown'
  clear hown' hgrow
  go_wp2_with fail
  go_ret
  exact ⟨BW.out, oa3, oc3, rfl, OW.out⟩
end Go.Proofs.YtbfoonfbhebhfaaGreatDoor
