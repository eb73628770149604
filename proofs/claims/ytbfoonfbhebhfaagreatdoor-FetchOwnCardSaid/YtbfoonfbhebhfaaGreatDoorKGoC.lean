/- Joined: WalkReapD. -/
import Derived.Test.YtbfoonfbhebhfaaGreatDoorKGoB
namespace Go.Proofs.YtbfoonfbhebhfaaGreatDoor
open Go.RowKit Plain Go.Maps Go.ChangeMaps
set_option linter.unusedVariables false
set_option linter.unusedSimpArgs false
theorem info_itR : (Tryz.prog.info? 40).map (fun i => (i.zero, i.size, i.bytes)) = some (some (.agg #[.string ⟨#[]⟩, .int .i64 0, .int .i64 0, .int .i64 0, .string ⟨#[]⟩]), 5, 56) := by kernel_rfl
abbrev obk (a : Option Addr) : Option Nat := a.map (·.block)
theorem own_obk (a : Option Addr) (n c : Nat) : (Value.slice a n c).ownBlock = obk a := by cases a <;> rfl
theorem path_snoc (k : KT) (nm : ByteArray) : pthB k ++ (⟨#[47]⟩ : ByteArray) ++ nm = pthB (k ++ [bT nm]) := by
 apply bT_inj
 rw [bT_pthB, pthT_snoc, ← bT_pthB k]
 simp [bT, ByteArray.data_append]
def RdEnd (base R H : Nat) (es : List (List Nat × Bl)) (out : List It) (ob : Option Nat) (w0 : World) (e : Ending) (w : World) : Prop := e = .returned (.int .i64 0) ∧ ∃ (oa : Option Addr) (oc : Nat), RS base R H es out oa oc w ∧ FrR R ob (obk oa) w0 w
theorem RS.obk {base R H : Nat} {es : List (List Nat × Bl)} {out : List It} {oa : Option Addr} {oc : Nat} {w : World} (h : RS base R H es out oa oc w) {g : Nat} (hg : obk oa = some g) : base ≤ g ∧ g < w.heap.size ∧ g ≠ R := by
 have hg' : (Value.slice oa out.length oc).ownBlock = some g := by rw [own_obk]; exact hg
 obtain ⟨h1, h2, cs, h3⟩ := own_typ h.2.1 hg'
 refine ⟨h1, h2, fun e => ?_⟩
 have hr := h.1
 unfold Rpr at hr
 rw [← e, h3] at hr
 injection hr with hr
 injection hr with _ hr
 exact absurd hr (by decide)
theorem NodesT.nil_inv {B : Lk} {sub : KT → List Nat → List It → Prop} {k : KT} {l : List It} (h : NodesT B sub k [] l) : l = [] := by cases h; rfl
theorem nd_at {lm ms : List MN} (h : lm.map ndOf = ms.map ndOf) {i : Nat} (hi : i < lm.length) (hi' : i < ms.length) : ndOf ms[i] = ndOf lm[i] := by
 have := List.getElem_of_eq h (i := i) (by simpa using hi)
 simpa using this.symm
set_option maxRecDepth 100000 in
set_option maxHeartbeats 4000000 in
theorem rdir_step {w0 : World} (hT : Tabs w0) {base R H : Nat} (hb0 : w0.heap.size ≤ base) {es : List (List Nat × Bl)} (hes : ∀ e ∈ es, e.1.length = 8) (k : KT) (b0 b1 b2 b3 b4 b5 b6 b7 : Nat) (l : List It) (t : ByteArray) (ms : List MN) (sub : KT → List Nat → List It → Prop) (hB : ilk es [b0, b1, b2, b3, b4, b5, b6, b7] = some (2, t)) (hrok : ROk t ms) (hn : NodesT (ilk es) sub k ms l) (hdeep : k.length ≤ 8) (hd8 : k.length = 8 → ms = []) (hkz : (pthB k).size ≤ 100 * k.length)
  (out : List It) (oa : Option Addr) (oc : Nat) (w : World) (hrs : RS base R H es out oa oc w) (hbw : Below w0.heap.size w0 w) (hlen : out.length + l.length ≤ 100)
  (hsub : ∀ (a : T) (e0 e1 e2 e3 e4 e5 e6 e7 : Nat) (l' : List It), a.length ≤ 96 → sub (k ++ [a]) [e0, e1, e2, e3, e4, e5, e6, e7] l' → ∀ (out' : List It) (oa' : Option Addr) (oc' : Nat) (u : World), RS base R H es out' oa' oc' u → Below w0.heap.size w0 u → out'.length + l'.length ≤ 100 → Calls Tryz.prog 56 #[.pointer (some ⟨R, 0, none⟩), .agg #[.int .u8 (e0 : Int), .int .u8 (e1 : Int), .int .u8 (e2 : Int), .int .u8 (e3 : Int), .int .u8 (e4 : Int), .int .u8 (e5 : Int), .int .u8 (e6 : Int), .int .u8 (e7 : Int)], .string (pthB (k ++ [a])), .int .i64 ((k.length + 1 : Nat) : Int)] u (RdEnd base R H es (out' ++ l') (obk oa') u)) :
  Calls Tryz.prog 56 #[.pointer (some ⟨R, 0, none⟩), .agg #[.int .u8 (b0 : Int), .int .u8 (b1 : Int), .int .u8 (b2 : Int), .int .u8 (b3 : Int), .int .u8 (b4 : Int), .int .u8 (b5 : Int), .int .u8 (b6 : Int), .int .u8 (b7 : Int)], .string (pthB k), .int .i64 (k.length : Int)] w (RdEnd base R H es (out ++ l) (obk oa) w) := by
 obtain ⟨ix0, hx0, hxz0, hxz1, hxz2⟩ := info_parts info_itR
 have hba := (Below.refl w.heap.size w).alloc (Nat.le_refl _) (.cells #[.int .u8 (b0 : Int), .int .u8 (b1 : Int), .int .u8 (b2 : Int), .int .u8 (b3 : Int), .int .u8 (b4 : Int), .int .u8 (b5 : Int), .int .u8 (b6 : Int), .int .u8 (b7 : Int)] 30)
 have HBA := Lib.hid hba
 have hrs1 := hrs.below hba
 have HRS1 := Lib.hid hrs1
 have HRS0 := Lib.hid hrs
 have HF := Lib.hid (rfind_any hes b0 b1 b2 b3 b4 b5 b6 b7 2 t hB (w.alloc (.cells #[.int .u8 (b0 : Int), .int .u8 (b1 : Int), .int .u8 (b2 : Int), .int .u8 (b3 : Int), .int .u8 (b4 : Int), .int .u8 (b5 : Int), .int .u8 (b6 : Int), .int .u8 (b7 : Int)] 30)) hrs1.1.c0 (lt_of_block hrs1.1) hrs1.2.2.1)
 have HT := Lib.hid hT
 have HBW := Lib.hid hbw
 have HB0 := Lib.hid hb0
 have HES := Lib.hid hes
 have HROK := Lib.hid hrok
 have HN := Lib.hid hn
 have HD8 := Lib.hid hd8
 have HLEN := Lib.hid hlen
 have HSUB := Lib.hid hsub
 have HKZ := Lib.hid hkz
 clear hba hrs hrs1 hT hbw hb0 hes hrok hn hd8 hlen hsub hB hkz
 generalize hq : pthB k = q at *
 have HQ := Lib.hid hq
 clear hq
 go_enter Tryz.func56, Tryz.ntmps56
 go_wp2_with fail
 refine HF.out.mono ?_
 rintro e w1 ⟨rfl, hb1⟩
 have HB1 := Lib.hid (HBA.out.trans (hb1.mono HBA.out.size))
 have HRD := Lib.hid (tread_any t w1 ((HT.out.below HBW.out).below HB1.out))
 clear hb1 HF
 go_wp2_with fail
 refine HRD.out.mono ?_
 rintro e w2 ⟨⟨lm, na, nc, hro, rfl, hna, hno, hmz⟩ | ⟨c, _, _, hno⟩, hb2⟩
 rotate_left
 ·
  exact absurd HROK.out (hno ms)
 have HND := Lib.hid (hro.same HROK.out)
 have hlm64 : lm.length ≤ 64 := hro.2.1.1
 have HTO := Lib.hid hro.2.1
 have HNA := Lib.hid hna
 have HNO := Lib.hid hno
 have HRS2 := Lib.hid ((HRS0.out.below HB1.out).below hb2)
 have HFR0 : Hid (FrR R (obk oa) (obk oa) w w2) := Lib.hid ((FrR.of_below HB1.out).trans (.of_below hb2))
 have HGEN : Hid (∀ g, w1.heap.size ≤ g → g ≠ R ∧ some g ≠ obk oa) := Lib.hid fun g hg => by
  have h1 := lt_of_block (HRS0.out.below HB1.out).1
  refine ⟨by omega, fun e => ?_⟩
  have := ((HRS0.out.below HB1.out).obk e.symm).2.1
  omega
 have HNAB : Hid (∀ ad, na = some ad → ad.block ≠ R ∧ some ad.block ≠ obk oa) := Lib.hid fun ad e => HGEN.out _ (nb_own hno.1 ad e)
 have HLL : Hid (lm.length = ms.length) := Lib.hid (by have := congrArg List.length HND.out; simpa using this)
 clear hro hna hno hmz hb2 HRD HRS1 HBA HB1
 go_wp2_with fail
 have hlm63 : (lm.length : Int) ≤ 64 := by omega
 go_loopw [35] (fun iv wr => ∃ (i : Nat) (dn lr O : List It) (oa' : Option Addr) (oc' : Nat), i ≤ lm.length ∧ iv = .int .i64 (i : Int) ∧ Hid (l = dn ++ lr) ∧ Hid (O = out ++ dn) ∧ Hid (NodesT (ilk es) sub k (ms.drop i) lr) ∧ Hid (RS base R H es O oa' oc' wr) ∧ Hid (FrR R (obk oa) (obk oa') w2 wr)) (fun iv _ => lm.length - (intOf iv).toNat)
 case atStart => exact ⟨0, [], l, out, oa, oc, Nat.zero_le _, rfl, Lib.hid rfl, Lib.hid (List.append_nil _).symm, HN, HRS2, Lib.hid (FrR.refl _ _ _)⟩
 case round =>
  obtain ⟨i, dn, lr, O, oa', oc', hi, rfl, HDN, HO, HNT, HRS, HFR⟩ := hrel
  by_cases hlt : i < lm.length
  ·
   skip
   have m1 : (i : Int) < (lm.length : Int) := by omega
   have hltm : i < ms.length := by rw [← HLL.out]; exact hlt
   have hk8 : ((k.length : Int) == 8) = false := by
    rw [beq_eq_false_iff_ne]
    intro e
    have h9 := HD8.out (by omega)
    rw [h9] at hltm
    simp at hltm
   have hnt := HNT.out
   rw [List.drop_eq_getElem_cons hltm] at hnt
   have hnd := nd_at HND.out hlt hltm
   obtain ⟨g, off, hna0, hg, hr⟩ := (HFR.out.sat HNA.out.1 HNAB.out) i hlt
   have hok := HTO.out.2.1 _ (List.getElem_mem hlt)
   have hpa := HNA.out.2 _ (List.getElem_mem hlt)
   have hpn : ∀ ad, lm[i].2.2.2.2.2.1.1 = some ad → ad.block ≠ R ∧ some ad.block ≠ obk oa := fun ad e => HGEN.out _ (nb_own (HNO.out.2 _ (List.getElem_mem hlt)) ad e)
   have HPW := Lib.hid hpa
   have HPA := Lib.hid (HFR.out.sat hpa hpn)
   generalize lm[i] = m at *
   obtain ⟨pp, cc, em⟩ := ndOf_eq hnd.symm
   rw [em] at hnt
   clear em hnd hpa
   obtain ⟨nm, kd, md, tm, sz, ⟨pa, pc, ids⟩, lk⟩ := m
   simp only at hnt hpn
   subst hna0
   have r0 := hr 0 _ rfl
   have r1 := hr 1 _ rfl
   have r2 := hr 2 _ rfl
   have r3 := hr 3 _ rfl
   have r4 := hr 4 _ rfl
   have r5 := hr 5 _ rfl
   have r6 := hr 6 _ rfl
   simp only [Nat.add_zero] at r0 r1 r2 r3 r4 r5 r6
   have hnz := chk_size hok.1
   simp only at hnz
   have hids : ids.length ≤ 300 := hok.2.2.2.1
   have hszk : 0 ≤ sz ∧ sz ≤ 4096 := hok.2.2.1
   have HPN := Lib.hid hpn
   have HIDL := Lib.hid hids
   have hlen0 : O.length + lr.length ≤ 100 := by have h1 := HLEN.out; have h2 := congrArg List.length HDN.out; rw [HO.out]; rw [List.length_append] at h2 ⊢; omega
   have hlr1 : 1 ≤ lr.length := by cases hnt <;> simp <;> omega
   have HLR := Lib.hid hlen0
   have hx100 : ¬ (100 : Int) ≤ (O.length : Int) := by omega
   have hqz : q.size ≤ 800 := by have := HKZ.out; omega
   have z1 : ¬ 9223372036854775807 < q.size + (⟨#[47]⟩ : ByteArray).size := by show ¬ _ < q.size + 1; omega
   have z2 : ¬ 9223372036854775807 < (q ++ (⟨#[47]⟩ : ByteArray)).size + nm.size := by rw [ByteArray.size_append]; show ¬ _ < q.size + 1 + nm.size; omega
   have HPTH : Hid (q ++ (⟨#[47]⟩ : ByteArray) ++ nm = pthB (k ++ [bT nm])) := Lib.hid (by rw [← HQ.out]; exact path_snoc k nm)
   obtain ⟨xp, hxp⟩ : ∃ xp, q ++ (⟨#[47]⟩ : ByteArray) ++ nm = xp := ⟨_, rfl⟩
   rw [hxp] at HPTH
   have HXPS := Lib.hid hxp
   have HNM : Hid ((bT nm).length ≤ 96) := Lib.hid (by rw [bT_length]; omega)
   have hrn := heap_alloc_new wr (.cells #[.string nm, .int .i64 kd, .int .i64 md, .int .i64 tm, .int .i64 sz, .slice pa ids.length pc, .string lk] 120)
   have HRN := Lib.hid hrn
   have HBN : Hid (Below wr.heap.size wr (wr.alloc (.cells #[.string nm, .int .i64 kd, .int .i64 md, .int .i64 tm, .int .i64 sz, .slice pa ids.length pc, .string lk] 120))) := Lib.hid ((Below.refl _ _).alloc (Nat.le_refl _) _)
   have HRSN := Lib.hid (HRS.out.below HBN.out)
   have HFRN : Hid (FrR R (obk oa) (obk oa') w2 (wr.alloc (.cells #[.string nm, .int .i64 kd, .int .i64 md, .int .i64 tm, .int .i64 sz, .slice pa ids.length pc, .string lk] 120))) := Lib.hid (HFR.out.trans (.of_below HBN.out))
   have HPAN := Lib.hid (HPA.out.below HBN.out)
   have c1 := HRSN.out.1.c1
   have HOB : Hid (∀ g, obk oa' = some g → g < wr.heap.size ∧ g ≠ R) := Lib.hid fun g e => ⟨(HRS.out.obk e).2.1, (HRS.out.obk e).2.2⟩
   have HRLT : Hid (R < wr.heap.size) := Lib.hid (lt_of_block HRS.out.1)
   clear hr hg hpn hok hids hlen0 HRS HFR HBN HPA hqz HNT
   have n0 := cell_of_row _ _ 0 _ _ _ hrn
   have n1 := cell_of_row _ _ 1 _ _ _ hrn
   have n2 := cell_of_row _ _ 2 _ _ _ hrn
   have n3 := cell_of_row _ _ 3 _ _ _ hrn
   have n4 := cell_of_row _ _ 4 _ _ _ hrn
   have n5 := cell_of_row _ _ 5 _ _ _ hrn
   have n6 := cell_of_row _ _ 6 _ _ _ hrn
   simp only [List.getElem?_toArray, List.getElem?_cons_zero, List.getElem?_cons_succ] at n0 n1 n2 n3 n4 n5 n6
   clear hrn
   by_cases hk1 : kd = 1
   ·
    skip
    subst hk1
    cases hnt with
    | link h1 => exact absurd rfl h1
    | dir h1 => exact absurd h1 (by show ¬ ((1 : Int) = 2); decide)
    | @file _ s _ lr h1 h2 h3 h4 =>
     have hs4 : s.size ≤ 4096 := by have h9 : (s.size : Int) = sz := h3; omega
     have hsz : (s.size : Int) = sz := h3
     subst hsz
     have HNX := Lib.hid h4
     have hf2 : FileT (ilk es) ids s := h2
     skip
     have hbx : Below (wr.alloc (.cells #[.string nm, .int .i64 1, .int .i64 md, .int .i64 tm, .int .i64 (s.size : Int), .slice pa ids.length pc, .string lk] 120)).heap.size (wr.alloc (.cells #[.string nm, .int .i64 1, .int .i64 md, .int .i64 tm, .int .i64 (s.size : Int), .slice pa ids.length pc, .string lk] 120)) ((wr.alloc (.cells #[.string nm, .int .i64 1, .int .i64 md, .int .i64 tm, .int .i64 (s.size : Int), .slice pa ids.length pc, .string lk] 120)).alloc (.cells #[.string xp, .int .i64 1, .int .i64 md, .int .i64 tm, .string lk] 40)) := (Below.refl _ _).alloc (Nat.le_refl _) _
     have hrx := heap_alloc_new (wr.alloc (.cells #[.string nm, .int .i64 1, .int .i64 md, .int .i64 tm, .int .i64 (s.size : Int), .slice pa ids.length pc, .string lk] 120)) (.cells #[.string xp, .int .i64 1, .int .i64 md, .int .i64 tm, .string lk] 40)
     simp only [World.size_alloc] at hrx
     have HRX := Lib.hid hrx
     have HRSX := Lib.hid (HRSN.out.below hbx)
     have HFRX := Lib.hid (HFRN.out.trans (.of_below hbx))
     have HNX1 := Lib.hid ((hbx.block _ (lt_of_block HRN.out)).trans HRN.out)
     have HFI := Lib.hid (rfile_any HES.out nm 1 md tm pa pc ids lk s hf2 hs4 HIDL.out ((wr.alloc (.cells #[.string nm, .int .i64 1, .int .i64 md, .int .i64 tm, .int .i64 (s.size : Int), .slice pa ids.length pc, .string lk] 120)).alloc (.cells #[.string xp, .int .i64 1, .int .i64 md, .int .i64 tm, .string lk] 40)) (HPAN.out.below hbx) HRSX.out.1.c0 (lt_of_block HRSX.out.1) HRSX.out.2.2.1)
     have k0 := cell_of_row _ _ 0 _ _ _ HNX1.out
     have k1 := cell_of_row _ _ 1 _ _ _ HNX1.out
     have k2 := cell_of_row _ _ 2 _ _ _ HNX1.out
     have k3 := cell_of_row _ _ 3 _ _ _ HNX1.out
     have k4 := cell_of_row _ _ 4 _ _ _ HNX1.out
     have k5 := cell_of_row _ _ 5 _ _ _ HNX1.out
     have k6 := cell_of_row _ _ 6 _ _ _ HNX1.out
     simp only [List.getElem?_toArray, List.getElem?_cons_zero, List.getElem?_cons_succ] at k0 k1 k2 k3 k4 k5 k6
     have x4 := cell_of_row _ _ 4 _ _ _ hrx
     simp only [List.getElem?_toArray, List.getElem?_cons_zero, List.getElem?_cons_succ] at x4
     clear hbx hrx hf2 h2
     go_wp2_with fail
     refine HFI.out.mono ?_
     rintro e w4 ⟨rfl, hb4⟩
     have HRS4 := Lib.hid (HRSX.out.below hb4)
     have HFR4 := Lib.hid (HFRX.out.trans (.of_below hb4))
     have hx4 := (hb4.block _ (lt_of_block HRX.out)).trans HRX.out
     have HX4 := Lib.hid hx4
     have HN4 := Lib.hid ((hb4.block _ (lt_of_block HNX1.out)).trans HNX1.out)
     have HXG : Hid (wr.heap.size < wr.heap.size + 1) := Lib.hid (Nat.lt_succ_self _)
     have g4 := frozen_of_row _ (wr.heap.size + 1) 4 _ _ hx4
     have u0 := cell_of_row _ _ 0 _ _ _ hx4
     have u1 := cell_of_row _ _ 1 _ _ _ hx4
     have u2 := cell_of_row _ _ 2 _ _ _ hx4
     have u3 := cell_of_row _ _ 3 _ _ _ hx4
     have u4 := cell_of_row _ _ 4 _ _ _ hx4
     simp only [List.getElem?_toArray, List.getElem?_cons_zero, List.getElem?_cons_succ] at u0 u1 u2 u3 u4
     have hx5 := row_setW hx4 4 (.string s)
     have HX5 : Hid ((w4.setCell ⟨wr.heap.size + 1, 4, none⟩ (.string s)).heap[wr.heap.size + 1]? = some (.cells #[.string xp, .int .i64 1, .int .i64 md, .int .i64 tm, .string s] 40 (0, 0))) := Lib.hid hx5
     have hRn : R ≠ wr.heap.size + 1 := by have := HRLT.out; omega
     have HRS5 : Hid (RS base R H es O oa' oc' (w4.setCell ⟨wr.heap.size + 1, 4, none⟩ (.string s))) := Lib.hid ⟨(Below.heap_setCell _ _ _ _ hRn).trans HRS4.out.1, own_of_block HRS4.out.2.1 (fun j cs hj hc => Below.heap_setCell _ _ _ _ (by rw [own_obk] at hj; have := (HOB.out j hj).1; show j ≠ wr.heap.size + 1; omega)), (Below.heap_setCell _ _ _ _ (fun e => by
      have e : H = wr.heap.size + 1 := e
      have h9 := HRS4.out.2.2.1
      rw [e] at h9
      exact not_map_cells hx4 h9)).trans HRS4.out.2.2.1, HRS4.out.2.2.2⟩
     have HFR5 : Hid (FrR R (obk oa) (obk oa') w2 (w4.setCell ⟨wr.heap.size + 1, 4, none⟩ (.string s))) := Lib.hid ⟨HFR4.out.os, HFR4.out.tape, HFR4.out.output, by have := HFR4.out.size; simpa using this, fun j hj hjR hjo => (Below.heap_setCell _ _ _ _ (by have h1 := HFRN.out.size; simp at h1; show j ≠ wr.heap.size + 1; omega)).trans (HFR4.out.block j hj hjR hjo), HFR4.out.next⟩
     have HNBX := Lib.hid ((Below.heap_setCell w4 ⟨wr.heap.size + 1, 4, none⟩ (.string s) wr.heap.size (by show wr.heap.size ≠ wr.heap.size + 1; omega)).trans HN4.out)
     clear hb4 hx4 hx5 hRn HRS4 HFR4 HX4 HFI k0 k1 k2 k3 k4 k5 k6 x4 n0 n1 n2 n3 n4 n5 n6 c1
     go_wp2_with fail
     refine wp_region_noPanic ?_
     refine wp_region_E (S := fun u => Rpr u R H oa' O.length oc' ∧ u.heap[(wr.heap.size + 1)]? = some (.cells #[.string xp, .int .i64 1, .int .i64 md, .int .i64 tm, .string s] 40 (0, 0))) 10 (by kernel_rfl) ⟨HRS5.out.1, HX5.out⟩ (fun hS0 => ?_)
     have HS0 := Lib.hid hS0
     clear hS0
     have HRSd := Lib.hid (HRS5.out.below (Below.refl _ _).drew)
     have HBd : Hid (Below (w4.setCell ⟨wr.heap.size + 1, 4, none⟩ (.string s)).heap.size (w4.setCell ⟨wr.heap.size + 1, 4, none⟩ (.string s)) (w4.setCell ⟨wr.heap.size + 1, 4, none⟩ (.string s)).drew) := Lib.hid (Below.refl _ _).drew
     generalize (w4.setCell ⟨wr.heap.size + 1, 4, none⟩ (.string s)).drew = wd at *
     refine takeE_val 0 (.pointer (some ⟨R, 0, none⟩)) rfl (by kernel_rfl) (by kernel_rfl) (by kernel_rfl) (by kernel_rfl) rfl (fun _ _ _ _ h => h) (by rfl) rfl (fun wz hS => by go_simp) HS0.out ?_
     try simp only [List.set_cons_zero, List.set_cons_succ]
     refine takeE_val 1 (.pointer (some ⟨R, 0, none⟩)) rfl (by kernel_rfl) (by kernel_rfl) (by kernel_rfl) (by kernel_rfl) rfl (fun _ _ _ _ h => h) (by rfl) rfl (fun wz hS => by go_simp) HS0.out ?_
     try simp only [List.set_cons_zero, List.set_cons_succ]
     refine takeE_val 2 (.pointer (some ⟨R, 0, none⟩)) rfl (by kernel_rfl) (by kernel_rfl) (by kernel_rfl) (by kernel_rfl) rfl (fun _ _ _ _ h => h) (by rfl) rfl (fun wz hS => by go_simp) HS0.out ?_
     try simp only [List.set_cons_zero, List.set_cons_succ]
     refine takeE_val 3 (.pointer (some ⟨R, 1, none⟩)) rfl (by kernel_rfl) (by kernel_rfl) (by kernel_rfl) (by kernel_rfl) rfl (fun _ _ _ _ h => h) (by rfl) rfl (fun wz hS => by go_simp) HS0.out ?_
     try simp only [List.set_cons_zero, List.set_cons_succ]
     refine takeE_val 4 (.slice oa' O.length oc') rfl (by kernel_rfl) (by kernel_rfl) (by kernel_rfl) (by kernel_rfl) rfl (fun _ _ _ _ h => h) (by rfl) rfl (fun wz hS => by have y1 := hS.1.c1; go_simp) HS0.out ?_
     try simp only [List.set_cons_zero, List.set_cons_succ]
     refine takeE_val 5 (.agg #[.string xp, .int .i64 1, .int .i64 md, .int .i64 tm, .string s]) rfl (by kernel_rfl) (by kernel_rfl) (by kernel_rfl) (by kernel_rfl) rfl (fun _ _ _ _ h => h) (by rfl) rfl (fun wz hS => by have x0 := cell_of_row _ _ 0 _ _ _ hS.2; have x1 := cell_of_row _ _ 1 _ _ _ hS.2; have x2 := cell_of_row _ _ 2 _ _ _ hS.2; have x3 := cell_of_row _ _ 3 _ _ _ hS.2; have x4 := cell_of_row _ _ 4 _ _ _ hS.2; simp only [List.getElem?_toArray, List.getElem?_cons_zero, List.getElem?_cons_succ] at x0 x1 x2 x3 x4; go_simp) HS0.out ?_
     try simp only [List.set_cons_zero, List.set_cons_succ]
     have HAA : Hid (Below wd.heap.size wd (wd.alloc (.cells #[.string xp, .int .i64 1, .int .i64 md, .int .i64 tm, .string s] 40))) := Lib.hid ((Below.refl _ _).alloc (Nat.le_refl _) _)
     have HRSa := Lib.hid (HRSd.out.below HAA.out)
     have HXa := Lib.hid ((HAA.out.block _ (lt_of_block HS0.out.2)).trans HS0.out.2)
     have D1 := Lib.hid (cells_new_at wd wd.heap.size rfl #[.string xp, .int .i64 1, .int .i64 md, .int .i64 tm, .string s] 40 (iC ((xp, 1, md, tm, s) : It)) rfl)
     have D2 := Lib.hid (iC_one ((xp, 1, md, tm, s) : It))
     have D3 : Hid (O.length + 1 ≤ maxLen) := Lib.hid (by have := HLR.out; unfold maxLen; omega)
     have D4 : Hid ((O.length + 1) * 56 ≤ 140737488355328) := Lib.hid (by have := HLR.out; omega)
     have D5 : Hid (base ≤ (wd.alloc (.cells #[.string xp, .int .i64 1, .int .i64 md, .int .i64 tm, .string s] 40)).heap.size) := Lib.hid (by have h1 := HRSa.out.2.2.2; have h2 := lt_of_block HRSa.out.1; omega)
     refine oneE_ready 6 (by kernel_rfl) rfl (by rfl) (fun KQ hK => ?_)
     go_simp
     refine hK.out _ _ (fun _ => ⟨HRSa.out.1, HXa.out⟩) ?_
     clear hK KQ
     try simp only [Act.put, List.setIfInBounds_toArray, List.set_cons_zero, List.set_cons_succ]
     refine oneE_ready 7 (by kernel_rfl) rfl (by rfl) (fun KQ hK => ?_)
     obtain ⟨v', w7, hrun, hown, hgr, _, hblk⟩ := run_append_own_at (P := Tryz.prog) (wd.alloc (.cells #[.string xp, .int .i64 1, .int .i64 md, .int .i64 tm, .string s] 40)) base 26 26 40 ix0 (.agg #[.string ⟨#[]⟩, .int .i64 0, .int .i64 0, .int .i64 0, .string ⟨#[]⟩]) 5 56 Tryz.underlying26 hx0 hxz0 hxz1 hxz2 rfl (by decide) _ O.length (O.flatMap iC) HRSa.out.2.1 ⟨wd.heap.size, 0, none⟩ 1 1 (iC ((xp, 1, md, tm, s) : It)) rfl D1.out D2.out D3.out D4.out D5.out
     obtain ⟨oa3, oc3, rfl⟩ := own_formK hown
     refine wp_append_run _ _ 26 rfl rfl rfl hrun ?_
     rw [own_obk, own_obk] at hblk
     rw [own_obk] at hgr
     have hXB : (wr.heap.size + 1) < wd.heap.size := lt_of_block HS0.out.2
     have hRg : Rpr w7 R H oa' O.length oc' := (hgr.block R (lt_of_block HRSa.out.1) (fun e => (HOB.out R e.symm).2 rfl)).trans HRSa.out.1
     have hHg : w7.heap[H]? = some (imO blV es) := (hgr.block H (lt_of_blockW HRSa.out.2.2.1) (fun e => by
      obtain ⟨_, _, cs, hc⟩ := own_typ HRSa.out.2.1 (g := H) (by rw [own_obk]; exact e.symm)
      exact not_map_cells hc HRSa.out.2.2.1)).trans HRSa.out.2.2.1
     have hXg : w7.heap[(wr.heap.size + 1)]? = some (.cells #[.string xp, .int .i64 1, .int .i64 md, .int .i64 tm, .string s] 40 (0, 0)) := (hgr.block _ (lt_of_block HXa.out) (fun e => by have := (HOB.out _ e.symm).1; have h9 := HXG.out; omega)).trans HXa.out
     have hfr7 : FrR R (obk oa') (obk oa3) wd w7 := by
      refine ⟨hgr.os, hgr.tape, hgr.output, Nat.le_trans HAA.out.size hgr.size, fun j hj hjR hjo => (hgr.block j (Nat.lt_of_lt_of_le hj HAA.out.size) hjo).trans (HAA.out.block j hj), ?_⟩
      rcases hblk with h | h
      ·
       exact .inl h
      ·
       exact .inr ⟨_, h, HAA.out.size⟩
     refine hK.out _ _ (fun _ => ⟨hRg, hXg⟩) ?_
     clear hK KQ
     try simp only [Act.put, List.setIfInBounds_toArray, List.set_cons_zero, List.set_cons_succ]
     have HSb := Lib.hid (And.intro hRg hXg)
     refine oneE_ready 8 (by kernel_rfl) rfl (by rfl) (fun KQ hK => ?_)
     go_simp
     refine hK.out _ _ (fun _ => HSb.out) ?_
     clear hK KQ
     try simp only [Act.put, List.setIfInBounds_toArray, List.set_cons_zero, List.set_cons_succ]
     refine oneE_ready 9 (by kernel_rfl) rfl (by rfl) (fun KQ hK => ?_)
     go_simp
     refine hK.out _ _ (fun _ => HSb.out) ?_
     clear hK KQ
     try simp only [Act.put, List.setIfInBounds_toArray, List.set_cons_zero, List.set_cons_succ]
     have y9 := frozen_of_row _ R 1 _ _ hRg
     have y1 := hRg.c1
     refine oneE_ready 10 (by kernel_rfl) rfl (by rfl) (fun KQ hK => ?_)
     go_simp
     refine hK.out _ _ (fun h => absurd rfl h) ?_
     clear hK KQ
     try simp only [Act.put, List.setIfInBounds_toArray, List.set_cons_zero, List.set_cons_succ]
     refine wpAnyE_done (by kernel_rfl) ?_ _
     refine NoPanic.normal ?_
     have HLE : Hid ((O ++ [((xp, 1, md, tm, s) : It)]).length = O.length + 1) := Lib.hid (by rw [List.length_append]; rfl)
     have hR8 : Rpr (w7.setCell ⟨R, 1, none⟩ (.slice oa3 (O.length + 1) oc3)) R H oa3 (O.length + 1) oc3 := row_setW hRg 1 _
     have hHR : H ≠ R := fun e => by rw [e] at hHg; exact not_map_cells hRg hHg
     have HRS8 : Hid (RS base R H es (O ++ [((xp, 1, md, tm, s) : It)]) oa3 oc3 (w7.setCell ⟨R, 1, none⟩ (.slice oa3 (O.length + 1) oc3))) := Lib.hid ⟨by rw [HLE.out]; exact hR8, by rw [HLE.out, List.flatMap_append, List.flatMap_singleton]; exact own_setW hown hRg (by decide) 1 _, (Below.heap_setCell _ _ _ _ hHR).trans hHg, HRSa.out.2.2.2⟩
     have hfr8 : FrR R (obk oa3) (obk oa3) w7 (w7.setCell ⟨R, 1, none⟩ (.slice oa3 (O.length + 1) oc3)) := ⟨rfl, rfl, rfl, by simp, fun j hj hjR _ => Below.heap_setCell _ _ _ _ hjR, .inl rfl⟩
     have HFR8 : Hid (FrR R (obk oa) (obk oa3) w2 (w7.setCell ⟨R, 1, none⟩ (.slice oa3 (O.length + 1) oc3))) := Lib.hid ((HFR5.out.trans (.of_below HBd.out)).trans (hfr7.trans hfr8))
     have HX8 : Hid ((w7.setCell ⟨R, 1, none⟩ (.slice oa3 (O.length + 1) oc3)).heap[(wr.heap.size + 1)]? = some (.cells #[.string xp, .int .i64 1, .int .i64 md, .int .i64 tm, .string s] 40 (0, 0))) := Lib.hid ((Below.heap_setCell _ _ _ _ (by have := HRLT.out; have := HXG.out; show (wr.heap.size + 1) ≠ R; omega)).trans hXg)
     have hN7 : w7.heap[wr.heap.size]? = (w4.setCell ⟨wr.heap.size + 1, 4, none⟩ (.string s)).heap[wr.heap.size]? := (hgr.block _ (by have := lt_of_block HNBX.out; have h2 := HBd.out.size; simp; omega) (fun e => by have := (HOB.out _ e.symm).1; omega)).trans ((HAA.out.block _ (by have := lt_of_block HNBX.out; have h2 := HBd.out.size; omega)).trans (HBd.out.block _ (lt_of_block HNBX.out)))
     have HN8 := Lib.hid ((Below.heap_setCell w7 ⟨R, 1, none⟩ (.slice oa3 (O.length + 1) oc3) wr.heap.size (by have := HRLT.out; show wr.heap.size ≠ R; omega)).trans (hN7.trans HNBX.out))
     have HOB8 : Hid (∀ g, obk oa3 = some g → g < wr.heap.size ∨ (wr.heap.size + 1) < g) := Lib.hid fun g e => by
      rcases hblk with h | h
      ·
       exact .inl (HOB.out g (by rw [← h]; exact e)).1
      ·
       rw [h] at e; injection e with e; exact .inr (by have := HAA.out.size; omega)
     clear hrun hown hgr hblk hRg hHg hXg hfr7 hR8 hHR hfr8 hN7 y9 y1 hXB HSb HAA HRSa HXa D1 D2 D3 D4 D5 HRSd HBd HS0
     generalize hw8 : (w7.setCell ⟨R, 1, none⟩ (.slice oa3 (O.length + 1) oc3)) = w8 at *
     clear hw8
     have k0 := cell_of_row _ _ 0 _ _ _ HN8.out
     have k1 := cell_of_row _ _ 1 _ _ _ HN8.out
     have k2 := cell_of_row _ _ 2 _ _ _ HN8.out
     have k3 := cell_of_row _ _ 3 _ _ _ HN8.out
     have k4 := cell_of_row _ _ 4 _ _ _ HN8.out
     have k5 := cell_of_row _ _ 5 _ _ _ HN8.out
     have k6 := cell_of_row _ _ 6 _ _ _ HN8.out
     simp only [List.getElem?_toArray, List.getElem?_cons_zero, List.getElem?_cons_succ] at k0 k1 k2 k3 k4 k5 k6
     have HDN2 : Hid (l = dn ++ ((xp, 1, md, tm, s) : It) :: lr) := Lib.hid (by rw [HPTH.out]; exact HDN.out)
     go_wp2_with fail
     go_roundw
     case rel => exact ⟨i + 1, dn ++ [((xp, 1, md, tm, s) : It)], lr, _, oa3, oc3, by omega, by go_num, Lib.hid (by rw [HDN2.out, List.append_assoc]; rfl), Lib.hid (by rw [HO.out, List.append_assoc]), HNX, HRS8, HFR8⟩
     case measure => simp [intOf]; omega
   ·
    by_cases hk2 : kd = 2
    ·
     skip
     subst hk2
     cases hnt with
     | file h1 => exact absurd h1 hk1
     | link h1 h2 => exact absurd rfl h2
     | @dir _ i0 _ lr l1 h1 h2 h3 h4 =>
      have HNX := Lib.hid h4
      have hii : ids = [i0] := h2
      subst hii
      obtain ⟨e0, e1, e2, e3, e4, e5, e6, e7⟩ := i0
      have h3 : sub (k ++ [bT nm]) [e0, e1, e2, e3, e4, e5, e6, e7] l1 := h3
      have H3 := Lib.hid h3
      have f1 : ((2 : Int) == 1) = false := rfl
      simp only [List.length_cons, List.length_nil] at *
      clear hk1 h1 h2 h3
      have hbx : Below (wr.alloc (.cells #[.string nm, .int .i64 2, .int .i64 md, .int .i64 tm, .int .i64 sz, .slice pa 1 pc, .string lk] 120)).heap.size (wr.alloc (.cells #[.string nm, .int .i64 2, .int .i64 md, .int .i64 tm, .int .i64 sz, .slice pa 1 pc, .string lk] 120)) ((wr.alloc (.cells #[.string nm, .int .i64 2, .int .i64 md, .int .i64 tm, .int .i64 sz, .slice pa 1 pc, .string lk] 120)).alloc (.cells #[.string xp, .int .i64 2, .int .i64 md, .int .i64 tm, .string lk] 40)) := (Below.refl _ _).alloc (Nat.le_refl _) _
      have hrx := heap_alloc_new (wr.alloc (.cells #[.string nm, .int .i64 2, .int .i64 md, .int .i64 tm, .int .i64 sz, .slice pa 1 pc, .string lk] 120)) (.cells #[.string xp, .int .i64 2, .int .i64 md, .int .i64 tm, .string lk] 40)
      simp only [World.size_alloc] at hrx
      have HRX := Lib.hid hrx
      have HRSX := Lib.hid (HRSN.out.below hbx)
      have HFRX := Lib.hid (HFRN.out.trans (.of_below hbx))
      have HNBX := Lib.hid ((hbx.block _ (lt_of_block HRN.out)).trans HRN.out)
      have HXG : Hid (wr.heap.size < wr.heap.size + 1) := Lib.hid (Nat.lt_succ_self _)
      have k0 := cell_of_row _ _ 0 _ _ _ HNBX.out
      have k1 := cell_of_row _ _ 1 _ _ _ HNBX.out
      have k2 := cell_of_row _ _ 2 _ _ _ HNBX.out
      have k3 := cell_of_row _ _ 3 _ _ _ HNBX.out
      have k4 := cell_of_row _ _ 4 _ _ _ HNBX.out
      have k5 := cell_of_row _ _ 5 _ _ _ HNBX.out
      have k6 := cell_of_row _ _ 6 _ _ _ HNBX.out
      simp only [List.getElem?_toArray, List.getElem?_cons_zero, List.getElem?_cons_succ] at k0 k1 k2 k3 k4 k5 k6
      clear hbx hrx n0 n1 n2 n3 n4 n5 n6
      go_wp2_with fail
      refine wp_region_noPanic ?_
      refine wp_region_E (S := fun u => Rpr u R H oa' O.length oc' ∧ u.heap[(wr.heap.size + 1)]? = some (.cells #[.string xp, .int .i64 2, .int .i64 md, .int .i64 tm, .string lk] 40 (0, 0))) 10 (by kernel_rfl) ⟨HRSX.out.1, HRX.out⟩ (fun hS0 => ?_)
      have HS0 := Lib.hid hS0
      clear hS0
      have HRSd := Lib.hid (HRSX.out.below (Below.refl _ _).drew)
      have HBd : Hid (Below (((wr.alloc (.cells #[.string nm, .int .i64 2, .int .i64 md, .int .i64 tm, .int .i64 sz, .slice pa 1 pc, .string lk] 120)).alloc (.cells #[.string xp, .int .i64 2, .int .i64 md, .int .i64 tm, .string lk] 40))).heap.size (((wr.alloc (.cells #[.string nm, .int .i64 2, .int .i64 md, .int .i64 tm, .int .i64 sz, .slice pa 1 pc, .string lk] 120)).alloc (.cells #[.string xp, .int .i64 2, .int .i64 md, .int .i64 tm, .string lk] 40))) (((wr.alloc (.cells #[.string nm, .int .i64 2, .int .i64 md, .int .i64 tm, .int .i64 sz, .slice pa 1 pc, .string lk] 120)).alloc (.cells #[.string xp, .int .i64 2, .int .i64 md, .int .i64 tm, .string lk] 40))).drew) := Lib.hid (Below.refl _ _).drew
      generalize (((wr.alloc (.cells #[.string nm, .int .i64 2, .int .i64 md, .int .i64 tm, .int .i64 sz, .slice pa 1 pc, .string lk] 120)).alloc (.cells #[.string xp, .int .i64 2, .int .i64 md, .int .i64 tm, .string lk] 40))).drew = wd at *
      refine takeE_val 0 (.pointer (some ⟨R, 0, none⟩)) rfl (by kernel_rfl) (by kernel_rfl) (by kernel_rfl) (by kernel_rfl) rfl (fun _ _ _ _ h => h) (by rfl) rfl (fun wz hS => by go_simp) HS0.out ?_
      try simp only [List.set_cons_zero, List.set_cons_succ]
      refine takeE_val 1 (.pointer (some ⟨R, 0, none⟩)) rfl (by kernel_rfl) (by kernel_rfl) (by kernel_rfl) (by kernel_rfl) rfl (fun _ _ _ _ h => h) (by rfl) rfl (fun wz hS => by go_simp) HS0.out ?_
      try simp only [List.set_cons_zero, List.set_cons_succ]
      refine takeE_val 2 (.pointer (some ⟨R, 0, none⟩)) rfl (by kernel_rfl) (by kernel_rfl) (by kernel_rfl) (by kernel_rfl) rfl (fun _ _ _ _ h => h) (by rfl) rfl (fun wz hS => by go_simp) HS0.out ?_
      try simp only [List.set_cons_zero, List.set_cons_succ]
      refine takeE_val 3 (.pointer (some ⟨R, 1, none⟩)) rfl (by kernel_rfl) (by kernel_rfl) (by kernel_rfl) (by kernel_rfl) rfl (fun _ _ _ _ h => h) (by rfl) rfl (fun wz hS => by go_simp) HS0.out ?_
      try simp only [List.set_cons_zero, List.set_cons_succ]
      refine takeE_val 4 (.slice oa' O.length oc') rfl (by kernel_rfl) (by kernel_rfl) (by kernel_rfl) (by kernel_rfl) rfl (fun _ _ _ _ h => h) (by rfl) rfl (fun wz hS => by have y1 := hS.1.c1; go_simp) HS0.out ?_
      try simp only [List.set_cons_zero, List.set_cons_succ]
      refine takeE_val 5 (.agg #[.string xp, .int .i64 2, .int .i64 md, .int .i64 tm, .string lk]) rfl (by kernel_rfl) (by kernel_rfl) (by kernel_rfl) (by kernel_rfl) rfl (fun _ _ _ _ h => h) (by rfl) rfl (fun wz hS => by have x0 := cell_of_row _ _ 0 _ _ _ hS.2; have x1 := cell_of_row _ _ 1 _ _ _ hS.2; have x2 := cell_of_row _ _ 2 _ _ _ hS.2; have x3 := cell_of_row _ _ 3 _ _ _ hS.2; have x4 := cell_of_row _ _ 4 _ _ _ hS.2; simp only [List.getElem?_toArray, List.getElem?_cons_zero, List.getElem?_cons_succ] at x0 x1 x2 x3 x4; go_simp) HS0.out ?_
      try simp only [List.set_cons_zero, List.set_cons_succ]
      have HAA : Hid (Below wd.heap.size wd (wd.alloc (.cells #[.string xp, .int .i64 2, .int .i64 md, .int .i64 tm, .string lk] 40))) := Lib.hid ((Below.refl _ _).alloc (Nat.le_refl _) _)
      have HRSa := Lib.hid (HRSd.out.below HAA.out)
      have HXa := Lib.hid ((HAA.out.block _ (lt_of_block HS0.out.2)).trans HS0.out.2)
      have D1 := Lib.hid (cells_new_at wd wd.heap.size rfl #[.string xp, .int .i64 2, .int .i64 md, .int .i64 tm, .string lk] 40 (iC ((xp, 2, md, tm, lk) : It)) rfl)
      have D2 := Lib.hid (iC_one ((xp, 2, md, tm, lk) : It))
      have D3 : Hid (O.length + 1 ≤ maxLen) := Lib.hid (by have := HLR.out; unfold maxLen; omega)
      have D4 : Hid ((O.length + 1) * 56 ≤ 140737488355328) := Lib.hid (by have := HLR.out; omega)
      have D5 : Hid (base ≤ (wd.alloc (.cells #[.string xp, .int .i64 2, .int .i64 md, .int .i64 tm, .string lk] 40)).heap.size) := Lib.hid (by have h1 := HRSa.out.2.2.2; have h2 := lt_of_block HRSa.out.1; omega)
      refine oneE_ready 6 (by kernel_rfl) rfl (by rfl) (fun KQ hK => ?_)
      go_simp
      refine hK.out _ _ (fun _ => ⟨HRSa.out.1, HXa.out⟩) ?_
      clear hK KQ
      try simp only [Act.put, List.setIfInBounds_toArray, List.set_cons_zero, List.set_cons_succ]
      refine oneE_ready 7 (by kernel_rfl) rfl (by rfl) (fun KQ hK => ?_)
      obtain ⟨v', w7, hrun, hown, hgr, _, hblk⟩ := run_append_own_at (P := Tryz.prog) (wd.alloc (.cells #[.string xp, .int .i64 2, .int .i64 md, .int .i64 tm, .string lk] 40)) base 26 26 40 ix0 (.agg #[.string ⟨#[]⟩, .int .i64 0, .int .i64 0, .int .i64 0, .string ⟨#[]⟩]) 5 56 Tryz.underlying26 hx0 hxz0 hxz1 hxz2 rfl (by decide) _ O.length (O.flatMap iC) HRSa.out.2.1 ⟨wd.heap.size, 0, none⟩ 1 1 (iC ((xp, 2, md, tm, lk) : It)) rfl D1.out D2.out D3.out D4.out D5.out
      obtain ⟨oa3, oc3, rfl⟩ := own_formK hown
      refine wp_append_run _ _ 26 rfl rfl rfl hrun ?_
      rw [own_obk, own_obk] at hblk
      rw [own_obk] at hgr
      have hXB : (wr.heap.size + 1) < wd.heap.size := lt_of_block HS0.out.2
      have hRg : Rpr w7 R H oa' O.length oc' := (hgr.block R (lt_of_block HRSa.out.1) (fun e => (HOB.out R e.symm).2 rfl)).trans HRSa.out.1
      have hHg : w7.heap[H]? = some (imO blV es) := (hgr.block H (lt_of_blockW HRSa.out.2.2.1) (fun e => by
       obtain ⟨_, _, cs, hc⟩ := own_typ HRSa.out.2.1 (g := H) (by rw [own_obk]; exact e.symm)
       exact not_map_cells hc HRSa.out.2.2.1)).trans HRSa.out.2.2.1
      have hXg : w7.heap[(wr.heap.size + 1)]? = some (.cells #[.string xp, .int .i64 2, .int .i64 md, .int .i64 tm, .string lk] 40 (0, 0)) := (hgr.block _ (lt_of_block HXa.out) (fun e => by have := (HOB.out _ e.symm).1; have h9 := HXG.out; omega)).trans HXa.out
      have hfr7 : FrR R (obk oa') (obk oa3) wd w7 := by
       refine ⟨hgr.os, hgr.tape, hgr.output, Nat.le_trans HAA.out.size hgr.size, fun j hj hjR hjo => (hgr.block j (Nat.lt_of_lt_of_le hj HAA.out.size) hjo).trans (HAA.out.block j hj), ?_⟩
       rcases hblk with h | h
       ·
        exact .inl h
       ·
        exact .inr ⟨_, h, HAA.out.size⟩
      refine hK.out _ _ (fun _ => ⟨hRg, hXg⟩) ?_
      clear hK KQ
      try simp only [Act.put, List.setIfInBounds_toArray, List.set_cons_zero, List.set_cons_succ]
      have HSb := Lib.hid (And.intro hRg hXg)
      refine oneE_ready 8 (by kernel_rfl) rfl (by rfl) (fun KQ hK => ?_)
      go_simp
      refine hK.out _ _ (fun _ => HSb.out) ?_
      clear hK KQ
      try simp only [Act.put, List.setIfInBounds_toArray, List.set_cons_zero, List.set_cons_succ]
      refine oneE_ready 9 (by kernel_rfl) rfl (by rfl) (fun KQ hK => ?_)
      go_simp
      refine hK.out _ _ (fun _ => HSb.out) ?_
      clear hK KQ
      try simp only [Act.put, List.setIfInBounds_toArray, List.set_cons_zero, List.set_cons_succ]
      have y9 := frozen_of_row _ R 1 _ _ hRg
      have y1 := hRg.c1
      refine oneE_ready 10 (by kernel_rfl) rfl (by rfl) (fun KQ hK => ?_)
      go_simp
      refine hK.out _ _ (fun h => absurd rfl h) ?_
      clear hK KQ
      try simp only [Act.put, List.setIfInBounds_toArray, List.set_cons_zero, List.set_cons_succ]
      refine wpAnyE_done (by kernel_rfl) ?_ _
      refine NoPanic.normal ?_
      have HLE : Hid ((O ++ [((xp, 2, md, tm, lk) : It)]).length = O.length + 1) := Lib.hid (by rw [List.length_append]; rfl)
      have hR8 : Rpr (w7.setCell ⟨R, 1, none⟩ (.slice oa3 (O.length + 1) oc3)) R H oa3 (O.length + 1) oc3 := row_setW hRg 1 _
      have hHR : H ≠ R := fun e => by rw [e] at hHg; exact not_map_cells hRg hHg
      have HRS8 : Hid (RS base R H es (O ++ [((xp, 2, md, tm, lk) : It)]) oa3 oc3 (w7.setCell ⟨R, 1, none⟩ (.slice oa3 (O.length + 1) oc3))) := Lib.hid ⟨by rw [HLE.out]; exact hR8, by rw [HLE.out, List.flatMap_append, List.flatMap_singleton]; exact own_setW hown hRg (by decide) 1 _, (Below.heap_setCell _ _ _ _ hHR).trans hHg, HRSa.out.2.2.2⟩
      have hfr8 : FrR R (obk oa3) (obk oa3) w7 (w7.setCell ⟨R, 1, none⟩ (.slice oa3 (O.length + 1) oc3)) := ⟨rfl, rfl, rfl, by simp, fun j hj hjR _ => Below.heap_setCell _ _ _ _ hjR, .inl rfl⟩
      have HFR8 : Hid (FrR R (obk oa) (obk oa3) w2 (w7.setCell ⟨R, 1, none⟩ (.slice oa3 (O.length + 1) oc3))) := Lib.hid ((HFRX.out.trans (.of_below HBd.out)).trans (hfr7.trans hfr8))
      have HX8 : Hid ((w7.setCell ⟨R, 1, none⟩ (.slice oa3 (O.length + 1) oc3)).heap[(wr.heap.size + 1)]? = some (.cells #[.string xp, .int .i64 2, .int .i64 md, .int .i64 tm, .string lk] 40 (0, 0))) := Lib.hid ((Below.heap_setCell _ _ _ _ (by have := HRLT.out; have := HXG.out; show (wr.heap.size + 1) ≠ R; omega)).trans hXg)
      have hN7 : w7.heap[wr.heap.size]? = (((wr.alloc (.cells #[.string nm, .int .i64 2, .int .i64 md, .int .i64 tm, .int .i64 sz, .slice pa 1 pc, .string lk] 120)).alloc (.cells #[.string xp, .int .i64 2, .int .i64 md, .int .i64 tm, .string lk] 40))).heap[wr.heap.size]? := (hgr.block _ (by have := lt_of_block HNBX.out; have h2 := HBd.out.size; simp; omega) (fun e => by have := (HOB.out _ e.symm).1; omega)).trans ((HAA.out.block _ (by have := lt_of_block HNBX.out; have h2 := HBd.out.size; omega)).trans (HBd.out.block _ (lt_of_block HNBX.out)))
      have HN8 := Lib.hid ((Below.heap_setCell w7 ⟨R, 1, none⟩ (.slice oa3 (O.length + 1) oc3) wr.heap.size (by have := HRLT.out; show wr.heap.size ≠ R; omega)).trans (hN7.trans HNBX.out))
      have HOB8 : Hid (∀ g, obk oa3 = some g → g < wr.heap.size ∨ (wr.heap.size + 1) < g) := Lib.hid fun g e => by
       rcases hblk with h | h
       ·
        exact .inl (HOB.out g (by rw [← h]; exact e)).1
       ·
        rw [h] at e; injection e with e; exact .inr (by have := HAA.out.size; omega)
      clear hrun hown hgr hblk hRg hHg hXg hfr7 hR8 hHR hfr8 hN7 y9 y1 hXB HSb HAA HRSa HXa D1 D2 D3 D4 D5 HRSd HBd HS0
      generalize hw8 : (w7.setCell ⟨R, 1, none⟩ (.slice oa3 (O.length + 1) oc3)) = w8 at *
      clear hw8
      clear k0 k1 k2 k3 k4 k5 k6
      have k0 := cell_of_row _ _ 0 _ _ _ HN8.out
      have k1 := cell_of_row _ _ 1 _ _ _ HN8.out
      have k2 := cell_of_row _ _ 2 _ _ _ HN8.out
      have k3 := cell_of_row _ _ 3 _ _ _ HN8.out
      have k4 := cell_of_row _ _ 4 _ _ _ HN8.out
      have k5 := cell_of_row _ _ 5 _ _ _ HN8.out
      have k6 := cell_of_row _ _ 6 _ _ _ HN8.out
      simp only [List.getElem?_toArray, List.getElem?_cons_zero, List.getElem?_cons_succ] at k0 k1 k2 k3 k4 k5 k6
      have HDN2 : Hid (l = dn ++ ((xp, 2, md, tm, lk) : It) :: (l1 ++ lr)) := Lib.hid (by rw [HPTH.out]; exact HDN.out)
      obtain ⟨gp, offp, hgp, hgl, hgr2⟩ := (HFR8.out.sat HPW.out HPN.out) 0 (by simp)
      have HPN2 := HPN.out _ hgp
      have HG2 : Hid (gp < w2.heap.size) := Lib.hid (by
       obtain ⟨gq, oq, hgq, hgq2, _⟩ := HPW.out 0 (by simp)
       rw [hgp] at hgq
       injection hgq with hgq
       injection hgq with hgq
       rw [hgq]; exact hgq2)
      subst hgp
      have HGR := Lib.hid hgr2
      have HGL := Lib.hid hgl
      have s8 : IntKind.i64.wrap ((k.length : Int) + 1) = ((k.length + 1 : Nat) : Int) := by rw [wraps_i64 _ (by omega) (by omega)]; omega
      have HLL1 : Hid ((O ++ [((xp, 2, md, tm, lk) : It)]).length + l1.length ≤ 100) := Lib.hid (by have h1 := HLR.out; rw [List.length_append]; simp only [List.length_cons, List.length_append, List.length_nil] at h1 ⊢; omega)
      have HBWx : Hid (Below w0.heap.size w0 w8) := Lib.hid (HBW.out.trans ((HFR0.out.trans HFR8.out).below (by have h1 := HRS0.out.2.2.2; have h2 := HB0.out; omega) (fun g hg => by have h1 := (HRS0.out.obk hg).1; have h2 := HB0.out; omega) HBW.out.size))
      clear hgr2 hgl
      go_wp2_with fail
      refine wp_region_noPanic ?_
      refine wp_region_E (S := fun u => u.heap[wr.heap.size]? = some (.cells #[.string nm, .int .i64 2, .int .i64 md, .int .i64 tm, .int .i64 sz, .slice (some ⟨gp, offp, none⟩) 1 pc, .string lk] 120 (0, 0)) ∧ u.heap[wr.heap.size + 1]? = some (.cells #[.string xp, .int .i64 2, .int .i64 md, .int .i64 tm, .string lk] 40 (0, 0)) ∧ u.rangeAt gp offp (idC (e0, e1, e2, e3, e4, e5, e6, e7))) 10 (by kernel_rfl) ⟨HN8.out, HX8.out, by simpa using HGR.out⟩ (fun hS0 => ?_)
      have HS0 := Lib.hid hS0
      clear hS0
      have HRSe := Lib.hid (HRS8.out.below (Below.refl _ _).drew)
      have HFRe := Lib.hid (HFR8.out.trans (.of_below (Below.refl w8.heap.size w8).drew))
      have HBWe := Lib.hid HBWx.out.drew
      have HGLe : Hid (gp < w8.drew.heap.size) := HGL
      generalize w8.drew = we at *
      refine takeE_val 0 (.pointer (some ⟨R, 0, none⟩)) rfl (by kernel_rfl) (by kernel_rfl) (by kernel_rfl) (by kernel_rfl) rfl (fun _ _ _ _ h => h) (by rfl) rfl (fun wz hS => by go_simp) HS0.out ?_
      try simp only [List.set_cons_zero, List.set_cons_succ]
      refine takeE_val 1 (.pointer (some ⟨wr.heap.size, 5, none⟩)) rfl (by kernel_rfl) (by kernel_rfl) (by kernel_rfl) (by kernel_rfl) rfl (fun _ _ _ _ h => h) (by rfl) rfl (fun wz hS => by go_simp) HS0.out ?_
      try simp only [List.set_cons_zero, List.set_cons_succ]
      refine takeE_val 2 (.slice (some ⟨gp, offp, none⟩) 1 pc) rfl (by kernel_rfl) (by kernel_rfl) (by kernel_rfl) (by kernel_rfl) rfl (fun _ _ _ _ h => h) (by rfl) rfl (fun wz hS => by have x5 := cell_of_row _ _ 5 _ _ _ hS.1; simp only [List.getElem?_toArray, List.getElem?_cons_zero, List.getElem?_cons_succ] at x5; go_simp) HS0.out ?_
      try simp only [List.set_cons_zero, List.set_cons_succ]
      refine takeE_val 3 (.pointer (some ⟨gp, offp, none⟩)) rfl (by kernel_rfl) (by kernel_rfl) (by kernel_rfl) (by kernel_rfl) rfl (fun _ _ _ _ h => h) (by rfl) rfl (fun wz hS => by go_simp) HS0.out ?_
      try simp only [List.set_cons_zero, List.set_cons_succ]
      refine takeE_val 4 (.agg #[.int .u8 (e0 : Int), .int .u8 (e1 : Int), .int .u8 (e2 : Int), .int .u8 (e3 : Int), .int .u8 (e4 : Int), .int .u8 (e5 : Int), .int .u8 (e6 : Int), .int .u8 (e7 : Int)]) rfl (by kernel_rfl) (by kernel_rfl) (by kernel_rfl) (by kernel_rfl) rfl (fun _ _ _ _ h => h) (by rfl) rfl (fun wz hS => by have q0 := hS.2.2 0 _ rfl; have q1 := hS.2.2 1 _ rfl; have q2 := hS.2.2 2 _ rfl; have q3 := hS.2.2 3 _ rfl; have q4 := hS.2.2 4 _ rfl; have q5 := hS.2.2 5 _ rfl; have q6 := hS.2.2 6 _ rfl; have q7 := hS.2.2 7 _ rfl; simp only [Nat.add_zero, bV] at q0 q1 q2 q3 q4 q5 q6 q7; go_simp) HS0.out ?_
      try simp only [List.set_cons_zero, List.set_cons_succ]
      refine takeE_val 5 (.pointer (some ⟨wr.heap.size + 1, 0, none⟩)) rfl (by kernel_rfl) (by kernel_rfl) (by kernel_rfl) (by kernel_rfl) rfl (fun _ _ _ _ h => h) (by rfl) rfl (fun wz hS => by go_simp) HS0.out ?_
      try simp only [List.set_cons_zero, List.set_cons_succ]
      refine takeE_val 6 (.string xp) rfl (by kernel_rfl) (by kernel_rfl) (by kernel_rfl) (by kernel_rfl) rfl (fun _ _ _ _ h => h) (by rfl) rfl (fun wz hS => by have x0 := cell_of_row _ _ 0 _ _ _ hS.2.1; simp only [List.getElem?_toArray, List.getElem?_cons_zero, List.getElem?_cons_succ] at x0; go_simp) HS0.out ?_
      try simp only [List.set_cons_zero, List.set_cons_succ]
      refine takeE_val 7 (.int .i64 (k.length : Int)) rfl (by kernel_rfl) (by kernel_rfl) (by kernel_rfl) (by kernel_rfl) rfl (fun _ _ _ _ h => h) (by rfl) rfl (fun wz hS => by go_simp) HS0.out ?_
      try simp only [List.set_cons_zero, List.set_cons_succ]
      refine takeE_val 8 (.int .i64 ((k.length + 1 : Nat) : Int)) rfl (by kernel_rfl) (by kernel_rfl) (by kernel_rfl) (by kernel_rfl) rfl (fun _ _ _ _ h => h) (by rfl) rfl (fun wz hS => by go_simp) HS0.out ?_
      try simp only [List.set_cons_zero, List.set_cons_succ]
      have HCL := Lib.hid (HSUB.out (bT nm) e0 e1 e2 e3 e4 e5 e6 e7 l1 HNM.out H3.out (O ++ [((xp, 2, md, tm, lk) : It)]) oa3 oc3 we HRSe.out HBWe.out HLL1.out)
      rw [← HPTH.out] at HCL
      refine oneE_ready 9 (by kernel_rfl) rfl (by rfl) (fun KQ hK => ?_)
      refine wp_call_run (f := 56) (args := #[.pointer (some ⟨R, 0, none⟩), .agg #[.int .u8 (e0 : Int), .int .u8 (e1 : Int), .int .u8 (e2 : Int), .int .u8 (e3 : Int), .int .u8 (e4 : Int), .int .u8 (e5 : Int), .int .u8 (e6 : Int), .int .u8 (e7 : Int)], .string xp, .int .i64 ((k.length + 1 : Nat) : Int)]) (by kernel_rfl) HCL.out ?_
      rintro e v1 ⟨rfl, oa4, oc4, hrs4, hfr4⟩
      have HRS4 := Lib.hid hrs4
      have HFR4 := Lib.hid (HFRe.out.trans hfr4)
      have hS4 : (fun u => u.heap[wr.heap.size]? = some (.cells #[.string nm, .int .i64 2, .int .i64 md, .int .i64 tm, .int .i64 sz, .slice (some ⟨gp, offp, none⟩) 1 pc, .string lk] 120 (0, 0)) ∧ u.heap[wr.heap.size + 1]? = some (.cells #[.string xp, .int .i64 2, .int .i64 md, .int .i64 tm, .string lk] 40 (0, 0)) ∧ u.rangeAt gp offp (idC (e0, e1, e2, e3, e4, e5, e6, e7))) v1 := ⟨(hfr4.block _ (lt_of_block HS0.out.1) (by have := HRLT.out; omega) (fun e => by rcases HOB8.out _ e.symm with h | h <;> omega)).trans HS0.out.1, (hfr4.block _ (lt_of_block HS0.out.2.1) (by have := HRLT.out; omega) (fun e => by rcases HOB8.out _ e.symm with h | h <;> omega)).trans HS0.out.2.1, range_other HS0.out.2.2 (hfr4.block _ HGLe.out HPN2.1 (fun e => by
       rcases HFR8.out.next with h | ⟨x, h, hx⟩
       ·
        exact HPN2.2 (by rw [← h]; exact e)
       ·
        rw [h] at e; injection e with e; have := HG2.out; omega))⟩
      refine ⟨_, rfl, ?_⟩
      refine hK.out _ _ (fun _ => hS4) ?_
      clear hK KQ
      try simp only [Act.put, List.setIfInBounds_toArray, List.set_cons_zero, List.set_cons_succ]
      refine oneE_ready 10 (by kernel_rfl) rfl (by rfl) (fun KQ hK => ?_)
      go_simp
      refine hK.out _ _ (fun h => absurd rfl h) ?_
      clear hK KQ
      try simp only [Act.put, List.setIfInBounds_toArray, List.set_cons_zero, List.set_cons_succ]
      refine wpAnyE_done (by kernel_rfl) ?_ _
      refine NoPanic.normal ?_
      clear hfr4 hrs4 hS4
      go_wp2_with fail
      go_roundw
      case rel => exact ⟨i + 1, dn ++ (((xp, 2, md, tm, lk) : It) :: l1), lr, _, oa4, oc4, by omega, by go_num, Lib.hid (by rw [HDN2.out, List.append_assoc]; rfl), Lib.hid (by rw [HO.out, List.append_assoc, List.append_assoc]; rfl), HNX, HRS4, HFR4⟩
      case measure => simp [intOf]; omega
    ·
     skip
     have f1 : (kd == 1) = false := by simpa using hk1
     have f2 : (kd == 2) = false := by simpa using hk2
     cases hnt with
     | file h1 => exact absurd h1 hk1
     | dir h1 => exact absurd h1 hk2
     | @link _ _ lr h1 h2 h4 =>
      have HNX := Lib.hid h4
      clear hk1 hk2 h1 h2
      have hbx : Below (wr.alloc (.cells #[.string nm, .int .i64 kd, .int .i64 md, .int .i64 tm, .int .i64 sz, .slice pa ids.length pc, .string lk] 120)).heap.size (wr.alloc (.cells #[.string nm, .int .i64 kd, .int .i64 md, .int .i64 tm, .int .i64 sz, .slice pa ids.length pc, .string lk] 120)) ((wr.alloc (.cells #[.string nm, .int .i64 kd, .int .i64 md, .int .i64 tm, .int .i64 sz, .slice pa ids.length pc, .string lk] 120)).alloc (.cells #[.string xp, .int .i64 kd, .int .i64 md, .int .i64 tm, .string lk] 40)) := (Below.refl _ _).alloc (Nat.le_refl _) _
      have hrx := heap_alloc_new (wr.alloc (.cells #[.string nm, .int .i64 kd, .int .i64 md, .int .i64 tm, .int .i64 sz, .slice pa ids.length pc, .string lk] 120)) (.cells #[.string xp, .int .i64 kd, .int .i64 md, .int .i64 tm, .string lk] 40)
      simp only [World.size_alloc] at hrx
      have HRX := Lib.hid hrx
      have HRSX := Lib.hid (HRSN.out.below hbx)
      have HFRX := Lib.hid (HFRN.out.trans (.of_below hbx))
      have HNBX := Lib.hid ((hbx.block _ (lt_of_block HRN.out)).trans HRN.out)
      have HXG : Hid (wr.heap.size < wr.heap.size + 1) := Lib.hid (Nat.lt_succ_self _)
      have k0 := cell_of_row _ _ 0 _ _ _ HNBX.out
      have k1 := cell_of_row _ _ 1 _ _ _ HNBX.out
      have k2 := cell_of_row _ _ 2 _ _ _ HNBX.out
      have k3 := cell_of_row _ _ 3 _ _ _ HNBX.out
      have k4 := cell_of_row _ _ 4 _ _ _ HNBX.out
      have k5 := cell_of_row _ _ 5 _ _ _ HNBX.out
      have k6 := cell_of_row _ _ 6 _ _ _ HNBX.out
      simp only [List.getElem?_toArray, List.getElem?_cons_zero, List.getElem?_cons_succ] at k0 k1 k2 k3 k4 k5 k6
      clear hbx hrx n0 n1 n2 n3 n4 n5 n6
      go_wp2_with fail
      refine wp_region_noPanic ?_
      refine wp_region_E (S := fun u => Rpr u R H oa' O.length oc' ∧ u.heap[(wr.heap.size + 1)]? = some (.cells #[.string xp, .int .i64 kd, .int .i64 md, .int .i64 tm, .string lk] 40 (0, 0))) 10 (by kernel_rfl) ⟨HRSX.out.1, HRX.out⟩ (fun hS0 => ?_)
      have HS0 := Lib.hid hS0
      clear hS0
      have HRSd := Lib.hid (HRSX.out.below (Below.refl _ _).drew)
      have HBd : Hid (Below (((wr.alloc (.cells #[.string nm, .int .i64 kd, .int .i64 md, .int .i64 tm, .int .i64 sz, .slice pa ids.length pc, .string lk] 120)).alloc (.cells #[.string xp, .int .i64 kd, .int .i64 md, .int .i64 tm, .string lk] 40))).heap.size (((wr.alloc (.cells #[.string nm, .int .i64 kd, .int .i64 md, .int .i64 tm, .int .i64 sz, .slice pa ids.length pc, .string lk] 120)).alloc (.cells #[.string xp, .int .i64 kd, .int .i64 md, .int .i64 tm, .string lk] 40))) (((wr.alloc (.cells #[.string nm, .int .i64 kd, .int .i64 md, .int .i64 tm, .int .i64 sz, .slice pa ids.length pc, .string lk] 120)).alloc (.cells #[.string xp, .int .i64 kd, .int .i64 md, .int .i64 tm, .string lk] 40))).drew) := Lib.hid (Below.refl _ _).drew
      generalize (((wr.alloc (.cells #[.string nm, .int .i64 kd, .int .i64 md, .int .i64 tm, .int .i64 sz, .slice pa ids.length pc, .string lk] 120)).alloc (.cells #[.string xp, .int .i64 kd, .int .i64 md, .int .i64 tm, .string lk] 40))).drew = wd at *
      refine takeE_val 0 (.pointer (some ⟨R, 0, none⟩)) rfl (by kernel_rfl) (by kernel_rfl) (by kernel_rfl) (by kernel_rfl) rfl (fun _ _ _ _ h => h) (by rfl) rfl (fun wz hS => by go_simp) HS0.out ?_
      try simp only [List.set_cons_zero, List.set_cons_succ]
      refine takeE_val 1 (.pointer (some ⟨R, 0, none⟩)) rfl (by kernel_rfl) (by kernel_rfl) (by kernel_rfl) (by kernel_rfl) rfl (fun _ _ _ _ h => h) (by rfl) rfl (fun wz hS => by go_simp) HS0.out ?_
      try simp only [List.set_cons_zero, List.set_cons_succ]
      refine takeE_val 2 (.pointer (some ⟨R, 0, none⟩)) rfl (by kernel_rfl) (by kernel_rfl) (by kernel_rfl) (by kernel_rfl) rfl (fun _ _ _ _ h => h) (by rfl) rfl (fun wz hS => by go_simp) HS0.out ?_
      try simp only [List.set_cons_zero, List.set_cons_succ]
      refine takeE_val 3 (.pointer (some ⟨R, 1, none⟩)) rfl (by kernel_rfl) (by kernel_rfl) (by kernel_rfl) (by kernel_rfl) rfl (fun _ _ _ _ h => h) (by rfl) rfl (fun wz hS => by go_simp) HS0.out ?_
      try simp only [List.set_cons_zero, List.set_cons_succ]
      refine takeE_val 4 (.slice oa' O.length oc') rfl (by kernel_rfl) (by kernel_rfl) (by kernel_rfl) (by kernel_rfl) rfl (fun _ _ _ _ h => h) (by rfl) rfl (fun wz hS => by have y1 := hS.1.c1; go_simp) HS0.out ?_
      try simp only [List.set_cons_zero, List.set_cons_succ]
      refine takeE_val 5 (.agg #[.string xp, .int .i64 kd, .int .i64 md, .int .i64 tm, .string lk]) rfl (by kernel_rfl) (by kernel_rfl) (by kernel_rfl) (by kernel_rfl) rfl (fun _ _ _ _ h => h) (by rfl) rfl (fun wz hS => by have x0 := cell_of_row _ _ 0 _ _ _ hS.2; have x1 := cell_of_row _ _ 1 _ _ _ hS.2; have x2 := cell_of_row _ _ 2 _ _ _ hS.2; have x3 := cell_of_row _ _ 3 _ _ _ hS.2; have x4 := cell_of_row _ _ 4 _ _ _ hS.2; simp only [List.getElem?_toArray, List.getElem?_cons_zero, List.getElem?_cons_succ] at x0 x1 x2 x3 x4; go_simp) HS0.out ?_
      try simp only [List.set_cons_zero, List.set_cons_succ]
      have HAA : Hid (Below wd.heap.size wd (wd.alloc (.cells #[.string xp, .int .i64 kd, .int .i64 md, .int .i64 tm, .string lk] 40))) := Lib.hid ((Below.refl _ _).alloc (Nat.le_refl _) _)
      have HRSa := Lib.hid (HRSd.out.below HAA.out)
      have HXa := Lib.hid ((HAA.out.block _ (lt_of_block HS0.out.2)).trans HS0.out.2)
      have D1 := Lib.hid (cells_new_at wd wd.heap.size rfl #[.string xp, .int .i64 kd, .int .i64 md, .int .i64 tm, .string lk] 40 (iC ((xp, kd, md, tm, lk) : It)) rfl)
      have D2 := Lib.hid (iC_one ((xp, kd, md, tm, lk) : It))
      have D3 : Hid (O.length + 1 ≤ maxLen) := Lib.hid (by have := HLR.out; unfold maxLen; omega)
      have D4 : Hid ((O.length + 1) * 56 ≤ 140737488355328) := Lib.hid (by have := HLR.out; omega)
      have D5 : Hid (base ≤ (wd.alloc (.cells #[.string xp, .int .i64 kd, .int .i64 md, .int .i64 tm, .string lk] 40)).heap.size) := Lib.hid (by have h1 := HRSa.out.2.2.2; have h2 := lt_of_block HRSa.out.1; omega)
      refine oneE_ready 6 (by kernel_rfl) rfl (by rfl) (fun KQ hK => ?_)
      go_simp
      refine hK.out _ _ (fun _ => ⟨HRSa.out.1, HXa.out⟩) ?_
      clear hK KQ
      try simp only [Act.put, List.setIfInBounds_toArray, List.set_cons_zero, List.set_cons_succ]
      refine oneE_ready 7 (by kernel_rfl) rfl (by rfl) (fun KQ hK => ?_)
      obtain ⟨v', w7, hrun, hown, hgr, _, hblk⟩ := run_append_own_at (P := Tryz.prog) (wd.alloc (.cells #[.string xp, .int .i64 kd, .int .i64 md, .int .i64 tm, .string lk] 40)) base 26 26 40 ix0 (.agg #[.string ⟨#[]⟩, .int .i64 0, .int .i64 0, .int .i64 0, .string ⟨#[]⟩]) 5 56 Tryz.underlying26 hx0 hxz0 hxz1 hxz2 rfl (by decide) _ O.length (O.flatMap iC) HRSa.out.2.1 ⟨wd.heap.size, 0, none⟩ 1 1 (iC ((xp, kd, md, tm, lk) : It)) rfl D1.out D2.out D3.out D4.out D5.out
      obtain ⟨oa3, oc3, rfl⟩ := own_formK hown
      refine wp_append_run _ _ 26 rfl rfl rfl hrun ?_
      rw [own_obk, own_obk] at hblk
      rw [own_obk] at hgr
      have hXB : (wr.heap.size + 1) < wd.heap.size := lt_of_block HS0.out.2
      have hRg : Rpr w7 R H oa' O.length oc' := (hgr.block R (lt_of_block HRSa.out.1) (fun e => (HOB.out R e.symm).2 rfl)).trans HRSa.out.1
      have hHg : w7.heap[H]? = some (imO blV es) := (hgr.block H (lt_of_blockW HRSa.out.2.2.1) (fun e => by
       obtain ⟨_, _, cs, hc⟩ := own_typ HRSa.out.2.1 (g := H) (by rw [own_obk]; exact e.symm)
       exact not_map_cells hc HRSa.out.2.2.1)).trans HRSa.out.2.2.1
      have hXg : w7.heap[(wr.heap.size + 1)]? = some (.cells #[.string xp, .int .i64 kd, .int .i64 md, .int .i64 tm, .string lk] 40 (0, 0)) := (hgr.block _ (lt_of_block HXa.out) (fun e => by have := (HOB.out _ e.symm).1; have h9 := HXG.out; omega)).trans HXa.out
      have hfr7 : FrR R (obk oa') (obk oa3) wd w7 := by
       refine ⟨hgr.os, hgr.tape, hgr.output, Nat.le_trans HAA.out.size hgr.size, fun j hj hjR hjo => (hgr.block j (Nat.lt_of_lt_of_le hj HAA.out.size) hjo).trans (HAA.out.block j hj), ?_⟩
       rcases hblk with h | h
       ·
        exact .inl h
       ·
        exact .inr ⟨_, h, HAA.out.size⟩
      refine hK.out _ _ (fun _ => ⟨hRg, hXg⟩) ?_
      clear hK KQ
      try simp only [Act.put, List.setIfInBounds_toArray, List.set_cons_zero, List.set_cons_succ]
      have HSb := Lib.hid (And.intro hRg hXg)
      refine oneE_ready 8 (by kernel_rfl) rfl (by rfl) (fun KQ hK => ?_)
      go_simp
      refine hK.out _ _ (fun _ => HSb.out) ?_
      clear hK KQ
      try simp only [Act.put, List.setIfInBounds_toArray, List.set_cons_zero, List.set_cons_succ]
      refine oneE_ready 9 (by kernel_rfl) rfl (by rfl) (fun KQ hK => ?_)
      go_simp
      refine hK.out _ _ (fun _ => HSb.out) ?_
      clear hK KQ
      try simp only [Act.put, List.setIfInBounds_toArray, List.set_cons_zero, List.set_cons_succ]
      have y9 := frozen_of_row _ R 1 _ _ hRg
      have y1 := hRg.c1
      refine oneE_ready 10 (by kernel_rfl) rfl (by rfl) (fun KQ hK => ?_)
      go_simp
      refine hK.out _ _ (fun h => absurd rfl h) ?_
      clear hK KQ
      try simp only [Act.put, List.setIfInBounds_toArray, List.set_cons_zero, List.set_cons_succ]
      refine wpAnyE_done (by kernel_rfl) ?_ _
      refine NoPanic.normal ?_
      have HLE : Hid ((O ++ [((xp, kd, md, tm, lk) : It)]).length = O.length + 1) := Lib.hid (by rw [List.length_append]; rfl)
      have hR8 : Rpr (w7.setCell ⟨R, 1, none⟩ (.slice oa3 (O.length + 1) oc3)) R H oa3 (O.length + 1) oc3 := row_setW hRg 1 _
      have hHR : H ≠ R := fun e => by rw [e] at hHg; exact not_map_cells hRg hHg
      have HRS8 : Hid (RS base R H es (O ++ [((xp, kd, md, tm, lk) : It)]) oa3 oc3 (w7.setCell ⟨R, 1, none⟩ (.slice oa3 (O.length + 1) oc3))) := Lib.hid ⟨by rw [HLE.out]; exact hR8, by rw [HLE.out, List.flatMap_append, List.flatMap_singleton]; exact own_setW hown hRg (by decide) 1 _, (Below.heap_setCell _ _ _ _ hHR).trans hHg, HRSa.out.2.2.2⟩
      have hfr8 : FrR R (obk oa3) (obk oa3) w7 (w7.setCell ⟨R, 1, none⟩ (.slice oa3 (O.length + 1) oc3)) := ⟨rfl, rfl, rfl, by simp, fun j hj hjR _ => Below.heap_setCell _ _ _ _ hjR, .inl rfl⟩
      have HFR8 : Hid (FrR R (obk oa) (obk oa3) w2 (w7.setCell ⟨R, 1, none⟩ (.slice oa3 (O.length + 1) oc3))) := Lib.hid ((HFRX.out.trans (.of_below HBd.out)).trans (hfr7.trans hfr8))
      have HX8 : Hid ((w7.setCell ⟨R, 1, none⟩ (.slice oa3 (O.length + 1) oc3)).heap[(wr.heap.size + 1)]? = some (.cells #[.string xp, .int .i64 kd, .int .i64 md, .int .i64 tm, .string lk] 40 (0, 0))) := Lib.hid ((Below.heap_setCell _ _ _ _ (by have := HRLT.out; have := HXG.out; show (wr.heap.size + 1) ≠ R; omega)).trans hXg)
      have hN7 : w7.heap[wr.heap.size]? = (((wr.alloc (.cells #[.string nm, .int .i64 kd, .int .i64 md, .int .i64 tm, .int .i64 sz, .slice pa ids.length pc, .string lk] 120)).alloc (.cells #[.string xp, .int .i64 kd, .int .i64 md, .int .i64 tm, .string lk] 40))).heap[wr.heap.size]? := (hgr.block _ (by have := lt_of_block HNBX.out; have h2 := HBd.out.size; simp; omega) (fun e => by have := (HOB.out _ e.symm).1; omega)).trans ((HAA.out.block _ (by have := lt_of_block HNBX.out; have h2 := HBd.out.size; omega)).trans (HBd.out.block _ (lt_of_block HNBX.out)))
      have HN8 := Lib.hid ((Below.heap_setCell w7 ⟨R, 1, none⟩ (.slice oa3 (O.length + 1) oc3) wr.heap.size (by have := HRLT.out; show wr.heap.size ≠ R; omega)).trans (hN7.trans HNBX.out))
      have HOB8 : Hid (∀ g, obk oa3 = some g → g < wr.heap.size ∨ (wr.heap.size + 1) < g) := Lib.hid fun g e => by
       rcases hblk with h | h
       ·
        exact .inl (HOB.out g (by rw [← h]; exact e)).1
       ·
        rw [h] at e; injection e with e; exact .inr (by have := HAA.out.size; omega)
      clear hrun hown hgr hblk hRg hHg hXg hfr7 hR8 hHR hfr8 hN7 y9 y1 hXB HSb HAA HRSa HXa D1 D2 D3 D4 D5 HRSd HBd HS0
      generalize hw8 : (w7.setCell ⟨R, 1, none⟩ (.slice oa3 (O.length + 1) oc3)) = w8 at *
      clear hw8
      clear k0 k1 k2 k3 k4 k5 k6
      have k0 := cell_of_row _ _ 0 _ _ _ HN8.out
      have k1 := cell_of_row _ _ 1 _ _ _ HN8.out
      have k2 := cell_of_row _ _ 2 _ _ _ HN8.out
      have k3 := cell_of_row _ _ 3 _ _ _ HN8.out
      have k4 := cell_of_row _ _ 4 _ _ _ HN8.out
      have k5 := cell_of_row _ _ 5 _ _ _ HN8.out
      have k6 := cell_of_row _ _ 6 _ _ _ HN8.out
      simp only [List.getElem?_toArray, List.getElem?_cons_zero, List.getElem?_cons_succ] at k0 k1 k2 k3 k4 k5 k6
      have HDN2 : Hid (l = dn ++ ((xp, kd, md, tm, lk) : It) :: lr) := Lib.hid (by rw [HPTH.out]; exact HDN.out)
      go_wp2_with fail
      go_roundw
      case rel => exact ⟨i + 1, dn ++ [((xp, kd, md, tm, lk) : It)], lr, _, oa3, oc3, by omega, by go_num, Lib.hid (by rw [HDN2.out, List.append_assoc]; rfl), Lib.hid (by rw [HO.out, List.append_assoc]), HNX, HRS8, HFR8⟩
      case measure => simp [intOf]; omega
  ·
   skip
   have m1 : ¬ (i : Int) < (lm.length : Int) := by omega
   have hnt := HNT.out
   rw [List.drop_eq_nil_of_le (by have := HLL.out; omega)] at hnt
   have hlr := hnt.nil_inv
   subst hlr
   have HRE : Hid (RS base R H es (out ++ l) oa' oc' wr) := Lib.hid (by rw [HDN.out, List.append_nil, ← HO.out]; exact HRS.out)
   have HFE := Lib.hid (HFR0.out.trans HFR.out)
   clear hnt
   go_wp2_with fail
   go_ret
   exact ⟨rfl, oa', oc', HRE.out, HFE.out⟩
end Go.Proofs.YtbfoonfbhebhfaaGreatDoor
