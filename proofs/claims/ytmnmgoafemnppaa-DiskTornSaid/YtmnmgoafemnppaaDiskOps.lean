/- The small operations of a disk: down, begin, right, Fuse, the changes applied, do. -/
import Derived.Test.YtmnmgoafemnppaaDiskMap
import Derived.Test.YtmnmgoafemnppaaDrawn
import Derived.StillTailTactics
namespace Go.Proofs.Ytmnmgoafemnppaa
open Go.RowKit Plain Go.Maps
set_option linter.unusedVariables false
set_option linter.unusedSimpArgs false
set_option maxRecDepth 100000 in
theorem down_any {base p N : Nat} {d : Dst} {w : World} (h : DS base p N d w) : Calls Try.prog 26 #[.pointer (some ⟨p, 0, none⟩)] w fun e w' => e = .returned (.bool d.down) ∧ w' = w := by
  obtain ⟨f, g, nf, ng, DF, DG, ca, cc, h⟩ := h
  obtain ⟨_, _, _, _, c4, c5⟩ := drow_cells h.1
  have HD : Hid (d.down = (d.fu && decide (d.lf = 0))) := Lib.hid rfl
  clear h
  generalize d.fu = fu at *
  generalize d.lf = lf at *
  cases fu with
  | false =>
    go_enter Try.func26, Try.ntmps26
    go_wp2_with fail
    go_ret
    exact ⟨by rw [HD.out]; rfl, rfl⟩
  | true =>
    by_cases h0 : lf = 0
    · subst h0
      go_enter Try.func26, Try.ntmps26
      go_wp2_with fail
      go_ret
      exact ⟨by rw [HD.out]; rfl, rfl⟩
    · have f1 : (lf == 0) = false := by simpa using h0
      have HE : Hid (decide (lf = 0) = false) := Lib.hid (decide_eq_false h0)
      clear h0
      go_enter Try.func26, Try.ntmps26
      go_wp2_with fail
      go_ret
      exact ⟨by rw [HD.out, HE.out]; rfl, rfl⟩
def BgEnd (base p N : Nat) (d : Dst) (w : World) (e : Ending) (w' : World) : Prop := FR base w w' ∧ ((d.down = true ∧ e = .returned (.int .i64 17) ∧ DS base p N d w') ∨ (d.down = false ∧ e = .returned (.int .i64 0) ∧ DS base p N d.dec w'))
set_option maxRecDepth 100000 in
set_option maxHeartbeats 1000000 in
theorem begin_any {base p N : Nat} {d : Dst} {w : World} (h : DS base p N d w) : Calls Try.prog 21 #[.pointer (some ⟨p, 0, none⟩)] w (BgEnd base p N d w) := by
  have HDN := Lib.hid (down_any h)
  have HH := Lib.hid h
  obtain ⟨f, g, nf, ng, DF, DG, ca, cc, h⟩ := h
  obtain ⟨_, _, _, _, c4, c5⟩ := drow_cells h.1
  have f5 := frozen_of_row _ p 5 _ _ h.1
  have HX := Lib.hid h
  cases hdn : d.down with
  | true =>
    have HT := Lib.hid hdn
    rw [hdn] at HDN
    clear h hdn
    go_enter Try.func21, Try.ntmps21
    go_wp2_with fail
    refine HDN.out.mono ?_
    rintro e w1 ⟨rfl, rfl⟩
    go_wp2_with fail
    go_ret
    exact ⟨FR.refl _ _, .inl ⟨HT.out, rfl, HH.out⟩⟩
  | false =>
    have HT := Lib.hid hdn
    rw [hdn] at HDN
    have hb := h.2.2.2.2.2.2.2.2.2.1
    have HC := Lib.hid (h.cell 5 (.int .i64 (d.lf - 1)))
    have HR : Hid (DRow (w.setCell ⟨p, 5, none⟩ (.int .i64 (d.lf - 1))) p d.room f g ca d.C.length cc d.fu (d.lf - 1)) := Lib.hid (row_setD h.1 5 _)
    have HDEC : Hid (d.dec = if d.fu = true then { d with lf := d.lf - 1 } else d) := Lib.hid rfl
    have HNZ : Hid (d.fu = true → d.lf ≠ 0) := Lib.hid fun h1 h2 => by rw [Dst.down, h1, h2] at hdn; cases hdn
    cases hfu : d.fu with
    | false =>
      rw [hfu] at c4 HDEC
      clear h hdn hfu
      go_enter Try.func21, Try.ntmps21
      go_wp2_with fail
      refine HDN.out.mono ?_
      rintro e w1 ⟨rfl, rfl⟩
      go_wp2_with fail
      go_ret
      exact ⟨FR.refl _ _, .inr ⟨HT.out, rfl, by rw [HDEC.out]; exact HH.out⟩⟩
    | true =>
      have hnz := HNZ.out hfu
      have hw : IntKind.i64.wrap (d.lf - 1) = d.lf - 1 := by rw [IntKind.wrap_i64]; omega
      have HDS : Hid (DS base p N d.dec (w.setCell ⟨p, 5, none⟩ (.int .i64 (d.lf - 1)))) := Lib.hid (by
        rw [HDEC.out, if_pos hfu]
        exact ⟨f, g, nf, ng, DF, DG, ca, cc, HR.out, HC.out.1, HC.out.2.1, h.2.2.2.1, h.2.2.2.2.1, HC.out.2.2.1, h.2.2.2.2.2.2.1, h.2.2.2.2.2.2.2.1, h.2.2.2.2.2.2.2.2.1, ⟨by show 0 ≤ d.lf - 1; omega, by show d.lf - 1 ≤ _; omega⟩, h.2.2.2.2.2.2.2.2.2.2⟩)
      rw [hfu] at c4
      clear h hdn hfu HDEC HNZ HX HH hnz hb
      generalize d.lf = lf at *
      go_enter Try.func21, Try.ntmps21
      go_wp2_with fail
      refine HDN.out.mono ?_
      rintro e w1 ⟨rfl, rfl⟩
      go_wp2_with fail
      go_ret
      exact ⟨HC.out.2.2.2, .inr ⟨HT.out, rfl, HDS.out⟩⟩
def rightB (s : ByteArray) : Bool := decide (1 ≤ s.size ∧ s.size ≤ 24)
set_option maxRecDepth 100000 in
theorem right_any (s : ByteArray) (w : World) (hs : s.size ≤ 9223372036854775807) : Calls Try.prog 31 #[.string s] w fun e w' => e = .returned (.bool (rightB s)) ∧ w' = w := by
  by_cases h1 : 1 ≤ s.size
  · have g1 : (1 : Int) ≤ (s.size : Int) := by omega
    by_cases h2 : s.size ≤ 24
    · have g2 : (s.size : Int) ≤ 24 := by omega
      have HE : Hid (rightB s = true) := Lib.hid (decide_eq_true ⟨h1, h2⟩)
      clear h1 h2
      go_enter Try.func31, Try.ntmps31
      go_wp2_with fail
      go_ret
      exact ⟨by rw [HE.out]; rfl, rfl⟩
    · have g2 : ¬ (s.size : Int) ≤ 24 := by omega
      have HE : Hid (rightB s = false) := Lib.hid (decide_eq_false (fun h => h2 h.2))
      clear h1 h2
      go_enter Try.func31, Try.ntmps31
      go_wp2_with fail
      go_ret
      exact ⟨by rw [HE.out]; rfl, rfl⟩
  · have g1 : ¬ (1 : Int) ≤ (s.size : Int) := by omega
    have HE : Hid (rightB s = false) := Lib.hid (decide_eq_false (fun h => h1 h.1))
    clear h1
    go_enter Try.func31, Try.ntmps31
    go_wp2_with fail
    go_ret
    exact ⟨by rw [HE.out]; rfl, rfl⟩
def FsEnd (base p N : Nat) (d : Dst) (n : Int) (w : World) (e : Ending) (w' : World) : Prop := FR base w w' ∧ e = .returned (.tuple #[]) ∧ DS base p N (d.fuse n) w'
set_option maxRecDepth 100000 in
set_option maxHeartbeats 1000000 in
theorem fuse_any {base p N : Nat} {d : Dst} {w : World} (n : Int) (hn : n ≤ 9223372036854775807) (h : DS base p N d w) : Calls Try.prog 9 #[.pointer (some ⟨p, 0, none⟩), .int .i64 n] w (FsEnd base p N d n w) := by
  obtain ⟨f, g, nf, ng, DF, DG, ca, cc, h⟩ := h
  obtain ⟨_, _, _, _, c4, c5⟩ := drow_cells h.1
  have f4 := frozen_of_row _ p 4 _ _ h.1
  have f5 := frozen_of_row _ p 5 _ _ h.1
  have HC := Lib.hid (h.cell 4 (.bool (decide (0 ≤ n))))
  have HR : Hid (DRow (w.setCell ⟨p, 4, none⟩ (.bool (decide (0 ≤ n)))) p d.room f g ca d.C.length cc (decide (0 ≤ n)) d.lf) := Lib.hid (row_setD h.1 4 _)
  have HX1 : Hid (DSX base p N { d with fu := decide (0 ≤ n) } (w.setCell ⟨p, 4, none⟩ (.bool (decide (0 ≤ n)))) f g nf ng DF DG ca cc) := Lib.hid ⟨HR.out, HC.out.1, HC.out.2.1, h.2.2.2.1, h.2.2.2.2.1, HC.out.2.2.1, h.2.2.2.2.2.2⟩
  have HC2 := Lib.hid (HX1.out.cell 5 (.int .i64 (max n 0)))
  have HR2 : Hid (DRow ((w.setCell ⟨p, 4, none⟩ (.bool (decide (0 ≤ n)))).setCell ⟨p, 5, none⟩ (.int .i64 (max n 0))) p d.room f g ca d.C.length cc (decide (0 ≤ n)) (max n 0)) := Lib.hid (row_setD HR.out 5 _)
  have HDS : Hid (DS base p N (d.fuse n) ((w.setCell ⟨p, 4, none⟩ (.bool (decide (0 ≤ n)))).setCell ⟨p, 5, none⟩ (.int .i64 (max n 0)))) := Lib.hid ⟨f, g, nf, ng, DF, DG, ca, cc, HR2.out, HC2.out.1, HC2.out.2.1, h.2.2.2.1, h.2.2.2.2.1, HC2.out.2.2.1, h.2.2.2.2.2.2.1, h.2.2.2.2.2.2.2.1, h.2.2.2.2.2.2.2.2.1, ⟨by show 0 ≤ max n 0; omega, by show max n 0 ≤ _; omega⟩, h.2.2.2.2.2.2.2.2.2.2⟩
  have HFR := Lib.hid (HC.out.2.2.2.trans HC2.out.2.2.2)
  have f5b := frozen_of_row _ p 5 _ _ HR.out
  have c5b := cell_of_row _ p 5 _ _ _ HR.out
  simp only [List.getElem?_toArray, List.getElem?_cons_zero, List.getElem?_cons_succ] at c5b
  clear h HC HR HX1 HC2 HR2
  go_enter Try.func9, Try.ntmps9
  go_wp2_with fail
  go_end0
  exact ⟨HFR.out, rfl, HDS.out⟩
def ApEnd (b nn : Nat) (D : DM) (c : Chg) (m : Nat) (w : World) (e : Ending) (w' : World) : Prop := e = .returned (.tuple #[]) ∧ w.grownBy w' (some b) ∧ ∃ D', SM w' b (nn + 1) D' ∧ lookM D' = apC c m (lookM D)
theorem ext_take (s : ByteArray) (k : Nat) : bT (s.extract 0 k) = (bT s).take k := by
  show (s.extract 0 k).data.toList = s.data.toList.take k
  simp [ByteArray.data_extract]
set_option maxRecDepth 100000 in
set_option maxHeartbeats 2000000 in
theorem apWr_any (n s : ByteArray) (m : Int) (hm : 0 ≤ m) (hm2 : m ≤ 9223372036854775807) {b nn : Nat} {D : DM} {w : World} (h : SM w b nn D) (hn : nn < maxLen) (hk : n.size ≤ maxLen) (hs : s.size ≤ maxLen) :
    Calls Try.prog 73 #[.agg #[.string n, .string s], .map (some b), .int .i64 m] w (ApEnd b nn D (.wr (bT n) (bT s)) m.toNat w) := by
  have HB := Lib.hid (World.grownBy_alloc w (.cells #[.string n, .string s] 67) (some b))
  have HX := heap_alloc_new w (.cells #[.string n, .string s] 67)
  have x0 := cell_of_row _ w.heap.size 0 _ _ _ HX
  have x1 := cell_of_row _ w.heap.size 1 _ _ _ HX
  simp only [List.getElem?_toArray, List.getElem?_cons_zero, List.getElem?_cons_succ] at x0 x1
  have HM := Lib.hid (h.alloc (.cells #[.string n, .string s] 67))
  obtain ⟨k, hkk⟩ : ∃ k : Nat, min m (s.size : Int) = (k : Int) := ⟨(min m (s.size : Int)).toNat, by omega⟩
  have q1 : (0 : Int) ≤ (k : Int) := Int.natCast_nonneg _
  have q2 : (k : Int) ≤ (s.size : Int) := by omega
  have HTK : Hid (bT (s.extract 0 k) = (bT s).take m.toNat) := Lib.hid (by
    rw [ext_take]
    have hbl := bT_length s
    by_cases hc : m.toNat ≤ s.size
    · rw [show k = m.toNat by omega]
    · rw [List.take_of_length_le (by omega), List.take_of_length_le (by omega)])
  have HKS : Hid ((s.extract 0 k).size ≤ maxLen) := Lib.hid (by rw [← bT_length, HTK.out, List.length_take]; have := bT_length s; omega)
  have HKEY := Lib.hid (key_str n hk)
  have HNM := Lib.hid hn
  have HMP := Lib.hid h.isMap
  clear h HX hn hm hm2 hk hs
  go_enter Try.func73, Try.ntmps73
  go_wp2_with fail
  generalize (w.alloc (.cells #[.string n, .string s] 67)) = w1 at *
  go_still_tail 11, (by kernel_rfl)
  change wpList _ _ _ _ _ w1.drew
  have HM2 : Hid (SM w1.drew b nn D) := Lib.hid HM.out.drew
  have HB2 : Hid (w.grownBy w1.drew (some b)) := Lib.hid ⟨HB.out.os, HB.out.tape, HB.out.output, HB.out.size, HB.out.block⟩
  generalize w1.drew = wd at *
  have HVAL : Hid (plainElem (H := Unit) Try.prog 9 (.string (s.extract 0 k)) = some (.lit (.string (bT (s.extract 0 k))), [])) := Lib.hid (plainElem_string Try.underlying9 HKS.out)
  generalize s.extract 0 k = v at *
  go_wp2_with (at_mapUpdate; refine wpList_mapUpdate_own _ rfl _ _ _ 48 rfl 9 9 law_str Try.underlying48 (plainElem Try.prog 9) b nn D rfl HM2.out HNM.out _ _ _ rfl rfl HKEY.out _ [] HVAL.out ?_; intro w9 hown9 hg9; go_frame)
  have HG := Lib.hid (HB2.out.trans hg9)
  have HO := Lib.hid hown9
  clear hown9 hg9
  go_wp2_with fail
  go_end0
  exact ⟨rfl, HG.out, _, HO.out, by rw [HTK.out, lookM_put HMP.out]; rfl⟩
theorem neS {a b : ByteArray} (h : a = b) : (a.toList == b.toList) = true := by subst h; simp
theorem neS' {a b : ByteArray} (h : a ≠ b) : (a.toList == b.toList) = false := by
  rw [beq_eq_false_iff_ne]
  intro e
  rw [Lib.toList_data, Lib.toList_data] at e
  exact h (bT_inj e)
set_option maxRecDepth 100000 in
set_option maxHeartbeats 2000000 in
theorem apRn_any (a c : ByteArray) (m : Int) {b nn : Nat} {D : DM} {w : World} (h : SM w b nn D) (hn : nn < maxLen) (hk : a.size ≤ maxLen) (hs : c.size ≤ maxLen) :
    Calls Try.prog 74 #[.agg #[.string a, .string c], .map (some b), .int .i64 m] w (ApEnd b nn D (.rn (bT a) (bT c)) m.toNat w) := by
  have HB := Lib.hid (World.grownBy_alloc w (.cells #[.string a, .string c] 71) (some b))
  have HX := heap_alloc_new w (.cells #[.string a, .string c] 71)
  have HXX := Lib.hid HX
  have HM := Lib.hid (h.alloc (.cells #[.string a, .string c] 71))
  have hlk := sm_look HM.out a hk
  have HKA := Lib.hid (key_str a hk)
  have HKC := Lib.hid (key_str c hs)
  have HNM := Lib.hid hn
  have HVL : Hid (∀ v, lookM D (bT a) = some v → v.length ≤ maxLen) := Lib.hid fun v hv => by
    obtain ⟨v2, ps, hrun, hv2⟩ := h.look_ok law_str Try.underlying48 (zero_str w) (plainElem_string (H := Unit) Try.underlying9 (s := ⟨#[]⟩) (by decide)) (key_str a hk)
    obtain ⟨s, rfl, hz, hsz⟩ := plainElem_string_inv Try.underlying9 hv2
    have hat : D.atKey (.string (bT a)) (.lit (.string [])) = .lit (.string (bT s)) := congrArg Prod.fst hz
    unfold lookM at hv
    split at hv
    · rw [hat] at hv
      injection hv with hv
      rw [← hv, bT_length]
      exact hsz
    · cases hv
  cases hl : lookM D (bT a) with
  | none =>
    rw [hl] at hlk
    have HE : Hid (ApEnd b nn D (.rn (bT a) (bT c)) m.toNat w (.returned (.tuple #[])) (w.alloc (.cells #[.string a, .string c] 71))) := Lib.hid ⟨rfl, HB.out, D, HM.out.mono (Nat.le_succ _), by simp only [apC, hl]⟩
    clear h HX hn hk hs hl HB HM
    go_enter Try.func74, Try.ntmps74
    go_wp2_with fail
    go_end0
    exact HE.out
  | some s =>
    rw [hl] at hlk
    simp only [Option.getD_some, Option.isSome_some] at hlk
    by_cases hac : a = c
    · have f1 := neS hac
      have HE : Hid (ApEnd b nn D (.rn (bT a) (bT c)) m.toNat w (.returned (.tuple #[])) (w.alloc (.cells #[.string a, .string c] 71))) := Lib.hid ⟨rfl, HB.out, D, HM.out.mono (Nat.le_succ _), by simp only [apC, hl]; rw [if_pos (by rw [hac])]⟩
      clear h HX hn hk hs hl HB HM hac
      go_enter Try.func74, Try.ntmps74
      go_wp2_with fail
      go_end0
      exact HE.out
    · have f1 := neS' hac
      have HAC : Hid (apC (.rn (bT a) (bT c)) m.toNat (lookM D) = fun k => if k = bT c then some s else if k = bT a then none else lookM D k) := Lib.hid (by
        simp only [apC, hl]
        rw [if_neg (fun e => hac (bT_inj e))])
      have HSV : Hid (plainElem (H := Unit) Try.prog 9 (.string (tB s)) = some (.lit (.string (bT (tB s))), [])) := Lib.hid (plainElem_string Try.underlying9 (by rw [tB_size]; exact HVL.out s hl))
      have HSB : Hid (bT (tB s) = s) := Lib.hid (bT_tB s)
      have HXT : Hid (∀ w2, (w.alloc (.cells #[.string a, .string c] 71)).grownBy w2 (some b) → w2.heap[w.heap.size]? = some (.cells #[.string a, .string c] 71 (0, 0))) := Lib.hid fun w2 hg => (hg.block _ (lt_of_block HXX.out) (fun e => by injection e with e; have := h.lt; omega)).trans HXX.out
      clear h HX hn hk hs hl hac HVL
      generalize tB s = sv at *
      go_enter Try.func74, Try.ntmps74
      go_wp2_with (at_delete; refine wpList_delete_own _ rfl _ _ 48 9 rfl 9 law_str Try.underlying48 (plainElem Try.prog 9) b nn D rfl HM.out _ _ rfl HKA.out ?_)
      intro w3 hown3 ht3
      have HG3 := Lib.hid (HB.out.trans ht3.grown)
      have HO3 := Lib.hid hown3
      have x1 := cell_of_row _ w.heap.size 1 _ _ _ (HXT.out w3 ht3.grown)
      simp only [List.getElem?_toArray, List.getElem?_cons_zero, List.getElem?_cons_succ] at x1
      clear hown3 ht3 hlk HB HM HXT HXX
      go_wp2_with (at_mapUpdate; refine wpList_mapUpdate_own _ rfl _ _ _ 48 rfl 9 9 law_str Try.underlying48 (plainElem Try.prog 9) b nn _ rfl HO3.out HNM.out _ _ _ rfl rfl HKC.out _ [] HSV.out ?_; intro w9 hown9 hg9; go_frame)
      have HG := Lib.hid (HG3.out.trans hg9)
      have HO := Lib.hid hown9
      have HMP := Lib.hid HO3.out.isMap
      clear hown9 hg9
      go_wp2_with fail
      go_end0
      exact ⟨rfl, HG.out, _, HO.out, by rw [HAC.out, HSB.out, lookM_put HMP.out, lookM_del]⟩
set_option maxRecDepth 100000 in
set_option maxHeartbeats 2000000 in
theorem apRm_any (a : ByteArray) (m : Int) {b nn : Nat} {D : DM} {w : World} (h : SM w b nn D) (hk : a.size ≤ maxLen) :
    Calls Try.prog 75 #[.agg #[.string a], .map (some b), .int .i64 m] w (ApEnd b nn D (.rm (bT a)) m.toNat w) := by
  have HB := Lib.hid (World.grownBy_alloc w (.cells #[.string a] 73) (some b))
  have HX := heap_alloc_new w (.cells #[.string a] 73)
  have HM := Lib.hid (h.alloc (.cells #[.string a] 73))
  have HKA := Lib.hid (key_str a hk)
  clear h hk
  go_enter Try.func75, Try.ntmps75
  go_wp2_with (at_delete; refine wpList_delete_own _ rfl _ _ 48 9 rfl 9 law_str Try.underlying48 (plainElem Try.prog 9) b nn D rfl HM.out _ _ rfl HKA.out ?_)
  intro w3 hown3 ht3
  have HG3 := Lib.hid (HB.out.trans ht3.grown)
  have HO3 := Lib.hid hown3
  clear hown3 ht3 HB HM
  go_wp2_with fail
  go_end0
  exact ⟨rfl, HG3.out, _, HO3.out.mono (Nat.le_succ _), by rw [lookM_del]; rfl⟩
/-- the method that the change's interface stands for -/
def apF : Chg → FuncId
  | .wr _ _ => 73
  | .rn _ _ => 74
  | .rm _ => 75
def apV : Chg → Value
  | .wr n s => .agg #[.string (tB n), .string (tB s)]
  | .rn a b => .agg #[.string (tB a), .string (tB b)]
  | .rm n => .agg #[.string (tB n)]
theorem ap_any (c : Chg) (hz : ChgZ c) (m : Int) (hm : 0 ≤ m) (hm2 : m ≤ 9223372036854775807) {b nn : Nat} {D : DM} {w : World} (h : SM w b nn D) (hn : nn < maxLen) :
    Calls Try.prog (apF c) #[apV c, .map (some b), .int .i64 m] w (ApEnd b nn D c m.toNat w) := by
  cases c with
  | wr n s =>
    have := apWr_any (tB n) (tB s) m hm hm2 h hn (by rw [tB_size]; exact hz.1) (by rw [tB_size]; exact hz.2)
    rw [bT_tB, bT_tB] at this
    exact this
  | rn a c =>
    have := apRn_any (tB a) (tB c) m h hn (by rw [tB_size]; exact hz.1) (by rw [tB_size]; exact hz.2)
    rw [bT_tB, bT_tB] at this
    exact this
  | rm n =>
    have := apRm_any (tB n) m h (by rw [tB_size]; exact hz)
    rw [bT_tB] at this
    exact this
end Go.Proofs.Ytmnmgoafemnppaa
