/- LzOwn: its walk. -/
import Derived.Test.YtaipojclfpgaaaaLzClone
namespace Go.Proofs.Ytaipojclfpgaaaa
open Go.RowKit Plain
set_option linter.unusedVariables false
set_option linter.unusedSimpArgs false
attribute [-go_sem] run_eql_struct run_neq_struct run_eqGuard_agg run_equalIn_agg Op.eqFields Program.fieldsOf
theorem lg_wr {w0 w : World} {f : List Int} {e : Ending} {B : Nat} {am : Option Addr} (h : LgEnd w0 f e w) (hB : B ≤ w0.heap.size) (ham : ∀ ad, am = some ad → ad.block < w0.heap.size) : Below w0.heap.size w0 w ∧ ∃ aw n k, e = .returned (.tuple #[.slice aw n n, .int .i64 k]) ∧ WR B am aw n w := by
  obtain ⟨hb, ⟨_, rfl⟩ | ⟨⟨_, h2, _⟩, g, o, rfl, hg, hr, hf⟩⟩ := h
  · exact ⟨hb, none, 0, 1, rfl, .inl ⟨rfl, rfl⟩⟩
  · have hlen : o.length = f.length := by have := hf.len; unfold natF at this; simpa using this
    exact ⟨hb, some ⟨g, 0, none⟩, f.length, 0, rfl, .inr ⟨g, _, rfl, Nat.le_trans hB hg, hr, by simp [nC, hlen], h2, fun ad e => by have := ham ad e; omega⟩⟩
theorem cd_sat {w0 w : World} {l : List Int} {e : Ending} (h : CodesEnd w0 l e w) : Below w0.heap.size w0 w ∧ ∃ ac C k, e = .returned (.tuple #[.slice ac C.length C.length, .int .i64 k]) ∧ SAt 1 iC w ac C ∧ NB w0.heap.size ac ∧ C.length ≤ 256 := by
  obtain ⟨hb, ⟨_, rfl⟩ | ⟨_, _, rfl⟩ | ⟨hk, _, g, cs, rfl, _, hg, hr, hc, _⟩⟩ := h
  · exact ⟨hb, none, [], 1, rfl, fun i hi => absurd hi (by simp), (fun ad e => by cases e), by simp⟩
  · exact ⟨hb, none, [], 4, rfl, fun i hi => absurd hi (by simp), (fun ad e => by cases e), by simp⟩
  · have hl : (cs.map fun n : Nat => (n : Int)).length = l.length := by rw [List.length_map, hc.1]
    have h256 : l.length ≤ 256 := by
      rcases kr_cases l with h | ⟨_, _, h, _⟩
      · rw [h] at hk; injection hk with _ h; cases h
      · exact h
    exact ⟨hb, some ⟨g, 0, none⟩, cs.map fun n : Nat => (n : Int), 0, by rw [hl], satN_row hr, fun ad e => by injection e with e; subst e; exact hg, by rw [hl]; exact h256⟩
/-- what LzOwn holds -/
structure LO (B g1 g2 : Nat) (l : List Tok) (f : List Int) (w : World) : Prop where
  a1 : Amp tC (tC ((0, 0, 0) : Tok)) 60 w g1 l t9P
  a2 : Amp iC [.int .i64 0] 3 w g2 f (-7)
  sz : B ≤ w.heap.size
theorem LO.below {B g1 g2 : Nat} {l : List Tok} {f : List Int} {w w' : World} (h : LO B g1 g2 l f w) (hb : Below w.heap.size w w') : LO B g1 g2 l f w' := ⟨h.a1.below hb, h.a2.below hb, Nat.le_trans h.sz hb.size⟩
/-- a list behind B that lies in no row of the others -/
structure AtB {α : Type} (n : Nat) (c : α → List Value) (B : Nat) (a : Option Addr) (l : List α) (w : World) : Prop where
  s : SAt n c w a l
  n : NB B a
theorem AtB.below {α : Type} {n : Nat} {c : α → List Value} {B : Nat} {a : Option Addr} {l : List α} {w w' : World} (h : AtB n c B a l w) (hb : Below w.heap.size w w') : AtB n c B a l w' := ⟨h.s.below hb, h.n⟩
theorem AtB.grown {α : Type} {n : Nat} {c : α → List Value} {B : Nat} {a : Option Addr} {l : List α} {w w' : World} {g : Nat} (h : AtB n c B a l w) (hg : w.grownBy w' (some g)) (hl : g < B) : AtB n c B a l w' := ⟨h.s.grown hg (h.n.ne hl), h.n⟩
theorem own_lt {w : World} {base : Nat} {a : Option Addr} {T : TypeId} {k n m c : Nat} {xs : List Value} (h : w.ownsRow base T k (.slice a m c) n xs) : ∀ ad, a = some ad → ad.block < w.heap.size := by
  intro ad e
  rcases h.2 with ⟨h0, _⟩ | ⟨g, c', cur, h0, hbg, hr, _⟩
  · injection h0 with h0 _ _
    rw [e] at h0
    cases h0
  · injection h0 with h0 _ _
    rw [e] at h0
    injection h0 with h0
    subst h0
    exact lt_of_block hr
set_option maxRecDepth 100000 in
set_option maxHeartbeats 4000000 in
theorem lzOwn_any (ta fa : Option Addr) (tc fc : Nat) (l : List Tok) (f : List Int) (w : World) (hl : SAt 3 tC w ta l) (hlt : ∀ t ∈ l, t.1 < 256) (hf : SAt 1 iC w fa f) (nl : l.length ≤ 5864062014634) (nf : f.length ≤ 17592186043904) :
    Calls Try.prog 8 #[.slice ta l.length tc, .slice fa f.length fc] w fun e w' => e = .returned (.bool true) ∧ Below w.heap.size w w' := by
  have HL := Lib.hid hl
  have HF := Lib.hid hf
  have HLT := Lib.hid hlt
  have HG := Lib.hid fun wx => greedy_any ⟨#[97, 97, 98]⟩ wx (by decide)
  clear hl hlt hf
  go_enter Try.func8, Try.ntmps8
  go_wp2_with fail
  refine (HG.out _).mono ?_
  rintro e w1 ⟨b, m, c, rfl, _, hgr, hb1⟩
  have hm3 : m.length = 3 := gr_aab hgr
  rw [hm3]
  have HB1 := Lib.hid hb1
  clear hgr hm3 hb1 HG
  go_wp2_with fail
  refine (ampleTk_any ta tc l _ (HL.out.below HB1.out) nl).mono ?_
  rintro e w2 ⟨g1, rfl, hx1, hA1, hb2⟩
  have HB2 := Lib.hid (Below.step HB1.out hb2)
  have HA1 := Lib.hid hA1
  have HX1 : Hid (w.heap.size ≤ g1) := Nat.le_trans HB1.out.size hx1
  clear hx1 hA1 hb2
  go_wp2_with fail
  refine (ampleIn_any fa fc f (-7) _ (HF.out.below HB2.out) nf).mono ?_
  rintro e w3 ⟨g2, rfl, hx2, hA2, hb3⟩
  have HB3 := Lib.hid (Below.step HB2.out hb3)
  have HX2 : Hid (w.heap.size ≤ g2) := Nat.le_trans HB2.out.size hx2
  obtain ⟨B, hBe⟩ : ∃ B, w3.heap.size = B := ⟨_, rfl⟩
  have HO3 : Hid (LO B g1 g2 l f w3) := ⟨HA1.out.below hb3, hA2, by rw [hBe]; exact Nat.le_refl _⟩
  have HG1 : Hid (g1 < B) := by show _ < _; rw [← hBe]; exact lt_of_block HO3.out.a1
  have HG2 : Hid (g2 < B) := by show _ < _; rw [← hBe]; exact lt_of_block HO3.out.a2
  have HNE : Hid (g1 ≠ g2) := type_ne HO3.out.a1 HO3.out.a2 (by decide)
  have HWB : Hid (w.heap.size ≤ B) := by show _ ≤ _; rw [← hBe]; exact HB3.out.size
  clear hx2 hA2 hb3 hBe HA1 HB1 HB2
  go_wp2_with fail
  refine (expand_any (some ⟨g1, 0, none⟩) (l.length + 3) l 4096 _ (HO3.out.a1.sat tC_length) (by omega) HLT.out).mono ?_
  rintro e w4 ⟨rfl, hb⟩
  have HBX := Lib.hid (Below.step HB3.out hb)
  have HOX := Lib.hid (HO3.out.below hb)
  clear hb HB3 HO3 
  have HB4 := HBX
  clear HBX
  have HO4 := HOX
  clear HOX
  go_wp2_with fail
  refine (pack_any (some ⟨g1, 0, none⟩) (l.length + 3) l _ (HO4.out.a1.sat tC_length) (by omega) HLT.out).mono ?_
  rintro e w5 ⟨rfl, hb⟩
  have HBX := Lib.hid (Below.step HB4.out hb)
  have HOX := Lib.hid (HO4.out.below hb)
  clear hb HB4 HO4 
  have HB5 := HBX
  clear HBX
  have HO5 := HOX
  clear HOX
  obtain ⟨s, hs⟩ : ∃ s, strOf (if lchk l = 0 then pk l else []) = s := ⟨_, rfl⟩
  have HSZ : Hid (s.size ≤ 9223372036854775807) := by
    show _ ≤ _
    rw [← hs, strOf_size]
    have := pk_length l
    split <;> simp <;> omega
  rw [hs]
  clear hs
  go_wp2_with fail
  refine (read_any s _ HSZ.out).mono ?_
  rintro e w6 ⟨v, rfl, hown, hb⟩
  obtain ⟨am, cm, rfl⟩ := own_form hown
  have hM := rd_len (strN s) (strN_lt s)
  generalize rd 0 (strN s) = R at *
  obtain ⟨rk, M⟩ := R
  simp only at hown hM ⊢
  have HM : Hid (AtB 3 tC B am M w6) := ⟨sat_own1 tC_length hown, (nb_own hown).mono HO5.out.sz⟩
  have HML := Lib.hid hM
  have HAM := Lib.hid (own_lt hown)
  clear hown hM HSZ
  have HBX := Lib.hid (Below.step HB5.out hb)
  have HOX := Lib.hid (HO5.out.below hb)
  clear hb HB5 HO5 
  have HB6 := HBX
  clear HBX
  have HO6 := HOX
  clear HOX
  go_wp2_with fail
  refine (lengths_any (some ⟨g2, 0, none⟩) (f.length + 3) f _ (HO6.out.a2.sat iC_length) (by omega)).mono ?_
  intro e w7 hr
  obtain ⟨hb, aw, nw, kw, rfl, hw⟩ := lg_wr hr HO6.out.sz HAM.out
  have HW := Lib.hid hw
  clear hr hw HAM
  have HBX := Lib.hid (Below.step HB6.out hb)
  have HOX := Lib.hid (HO6.out.below hb)
  have HMX := Lib.hid (HM.out.below hb)
  clear hb HB6 HO6 HM
  have HB7 := HBX
  clear HBX
  have HO7 := HOX
  clear HOX
  have HM := HMX
  clear HMX
  go_wp2_with fail
  refine (codes_any (some ⟨g2, 0, none⟩) (f.length + 3) f _ (HO7.out.a2.sat iC_length) (by omega)).mono ?_
  intro e w8 hr
  obtain ⟨hb, ac, C, kc, rfl, hcs, hcn, hcl⟩ := cd_sat hr
  have HC : Hid (AtB 1 iC w7.heap.size ac C w8) := ⟨hcs, hcn⟩
  have HCL := Lib.hid hcl
  have HZ8 : Hid (w7.heap.size ≤ w8.heap.size) := hb.size
  have HB78 : Hid (B ≤ w7.heap.size) := HO7.out.sz
  have HWL : Hid (∀ g, aw = some ⟨g, 0, none⟩ → g < w7.heap.size) := by
    intro g e
    rcases HW.out with ⟨h, _⟩ | ⟨g', cs, h, _, h3, _⟩
    · rw [h] at e; cases e
    · rw [h] at e; injection e with e; injection e with e; subst e; exact lt_of_block h3
  clear hr hcs hcn hcl
  have HBX := Lib.hid (Below.step HB7.out hb)
  have HOX := Lib.hid (HO7.out.below hb)
  have HMX := Lib.hid (HM.out.below hb)
  have HWX := Lib.hid (HW.out.below hb)
  clear hb HB7 HO7 HM HW
  have HB8 := HBX
  clear HBX
  have HO8 := HOX
  clear HOX
  have HM := HMX
  clear HMX
  have HW := HWX
  clear HWX
  go_wp2_with fail
  refine (staysTk_any g1 ta tc l _ HO8.out.a1 (HL.out.below HB8.out) nl).mono ?_
  rintro e w9 ⟨rfl, hb⟩
  have HZ9 : Hid (w7.heap.size ≤ w9.heap.size) := Nat.le_trans HZ8.out hb.size
  have HBX := Lib.hid (Below.step HB8.out hb)
  have HOX := Lib.hid (HO8.out.below hb)
  have HMX := Lib.hid (HM.out.below hb)
  have HWX := Lib.hid (HW.out.below hb)
  have HCX := Lib.hid (HC.out.below hb)
  clear hb HB8 HO8 HM HW HC
  have HB9 := HBX
  clear HBX
  have HO9 := HOX
  clear HOX
  have HM := HMX
  clear HMX
  have HW := HWX
  clear HWX
  have HC := HCX
  clear HCX
  go_wp2_with fail
  refine (staysIn_any g2 fa fc f (-7) _ HO9.out.a2 (HF.out.below HB9.out) nf).mono ?_
  rintro e w10 ⟨rfl, hb⟩
  have HZ10 : Hid (w7.heap.size ≤ w10.heap.size) := Nat.le_trans HZ9.out hb.size
  have HBX := Lib.hid (Below.step HB9.out hb)
  have HOX := Lib.hid (HO9.out.below hb)
  have HMX := Lib.hid (HM.out.below hb)
  have HWX := Lib.hid (HW.out.below hb)
  have HCX := Lib.hid (HC.out.below hb)
  clear hb HB9 HO9 HM HW HC
  have HB10 := HBX
  clear HBX
  have HO10 := HOX
  clear HOX
  have HM := HMX
  clear HMX
  have HW := HWX
  clear HWX
  have HC := HCX
  clear HCX
  go_wp2_with fail
  refine (cloneT_any am cm M _ HM.out.s (by have := HML.out; omega)).mono ?_
  rintro e w11 ⟨hb, am2, cm2, rfl, hown⟩
  have HM2 : Hid (AtB 3 tC w10.heap.size am2 M w11) := ⟨sat_own1 tC_length hown, nb_own hown⟩
  have HS1011 : Hid (w10.heap.size ≤ w11.heap.size) := hb.size
  have HS10 : Hid (w7.heap.size ≤ w10.heap.size) := HZ10.out
  clear hown
  have HBX := Lib.hid (Below.step HB10.out hb)
  have HOX := Lib.hid (HO10.out.below hb)
  have HMX := Lib.hid (HM.out.below hb)
  have HWX := Lib.hid (HW.out.below hb)
  have HCX := Lib.hid (HC.out.below hb)
  clear hb HB10 HO10 HM HW HC
  have HB11 := HBX
  clear HBX
  have HO11 := HOX
  clear HOX
  have HM := HMX
  clear HMX
  have HW := HWX
  clear HWX
  have HC := HCX
  clear HCX
  go_wp2_with fail
  refine (cloneIn_any ac C.length C _ HC.out.s (by have := HCL.out; omega)).mono ?_
  rintro e w12 ⟨hb, ac2, cc2, rfl, hown⟩
  have HC2 : Hid (AtB 1 iC w11.heap.size ac2 C w12) := ⟨sat_own1 iC_length hown, nb_own hown⟩
  have HS11 := HS1011
  clear hown
  have HBX := Lib.hid (Below.step HB11.out hb)
  have HOX := Lib.hid (HO11.out.below hb)
  have HMX := Lib.hid (HM.out.below hb)
  have HWX := Lib.hid (HW.out.below hb)
  have HCX := Lib.hid (HC.out.below hb)
  have HM2X := Lib.hid (HM2.out.below hb)
  clear hb HB11 HO11 HM HW HC HM2
  have HB12 := HBX
  clear HBX
  have HO12 := HOX
  clear HOX
  have HM := HMX
  clear HMX
  have HW := HWX
  clear HWX
  have HC := HCX
  clear HCX
  have HM2 := HM2X
  clear HM2X
  obtain ⟨cs1, hcs, hz⟩ := HO12.out.a1.cells tC_length rfl
  have HCS := Lib.hid hcs
  have HCZ := Lib.hid hz
  have HA2 := Lib.hid HO12.out.a2
  have HZB := Lib.hid HO12.out.sz
  clear hcs hz HO12
  go_wp2_with fail
  refine (spoilTk_any g1 (l.length + 3) l.length _ _ HCS.out HCZ.out (by omega) (by omega)).mono ?_
  rintro e w13 ⟨rfl, hg, _⟩
  have HA2X := Lib.hid (HA2.out.grown hg (fun e => HNE.out e.symm))
  have HBX := Lib.hid (below_grown HB12.out hg (Nat.le_trans HWB.out HZB.out) HX1.out)
  have HZBX : Hid (B ≤ w13.heap.size) := Nat.le_trans HZB.out hg.size
  have HMX := Lib.hid (HM.out.grown hg HG1.out)
  have HWX := Lib.hid (HW.out.grown hg HG1.out)
  have HCX := Lib.hid (HC.out.grown hg (Nat.lt_of_lt_of_le HG1.out HB78.out))
  have HM2X := Lib.hid (HM2.out.grown hg (Nat.lt_of_lt_of_le HG1.out (Nat.le_trans HB78.out HS10.out)))
  have HC2X := Lib.hid (HC2.out.grown hg (Nat.lt_of_lt_of_le HG1.out (Nat.le_trans (Nat.le_trans HB78.out HS10.out) HS11.out)))
  clear hg HCS HCZ HA2 HB12 HZB HM HW HC HM2 HC2
  obtain ⟨cs2, hcs, hz⟩ := HA2X.out.cells iC_length rfl
  rw [Nat.mul_one] at hz
  have HCS := Lib.hid hcs
  have HCZ := Lib.hid hz
  clear hcs hz HA2X
  go_wp2_with fail
  refine (spoilIn_any g2 (f.length + 3) f.length 3 _ _ HCS.out HCZ.out (by omega) (by omega)).mono ?_
  rintro e w14 ⟨rfl, hg, _⟩
  have HB14 := Lib.hid (below_grown HBX.out hg (Nat.le_trans HWB.out HZBX.out) HX2.out)
  have HZ14 : Hid (B ≤ w14.heap.size) := Nat.le_trans HZBX.out hg.size
  have HM := Lib.hid (HMX.out.grown hg HG2.out)
  have HW := Lib.hid (HWX.out.grown hg HG2.out)
  have HC := Lib.hid (HCX.out.grown hg (Nat.lt_of_lt_of_le HG2.out HB78.out))
  have HM2 := Lib.hid (HM2X.out.grown hg (Nat.lt_of_lt_of_le HG2.out (Nat.le_trans HB78.out HS10.out)))
  have HC2 := Lib.hid (HC2X.out.grown hg (Nat.lt_of_lt_of_le HG2.out (Nat.le_trans (Nat.le_trans HB78.out HS10.out) HS11.out)))
  clear hg HCS HCZ HBX HZBX HMX HWX HCX HM2X HC2X
  rcases HW.out with ⟨rfl, rfl⟩ | ⟨g3, cs3, rfl, h2, h3, h4, h5, h6⟩
  · clear HW HWL
    go_wp2_with fail
    refine (spoilIn_nil 5 _).mono ?_
    rintro e w15 ⟨rfl, hb⟩
    have HB15 := Lib.hid (Below.step HB14.out hb)
    have HMX := Lib.hid (HM.out.below hb)
    have HCX := Lib.hid (HC.out.below hb)
    have HM2X := Lib.hid (HM2.out.below hb)
    have HC2X := Lib.hid (HC2.out.below hb)
    clear hb HB14 HM HC HM2 HC2
    have HM := HMX
    clear HMX
    have HC := HCX
    clear HCX
    have HM2 := HM2X
    clear HM2X
    have HC2 := HC2X
    clear HC2X
    have HE := Lib.hid (eqTks_any am am2 cm cm2 M M _ HM.out.s HM2.out.s (by have := HML.out; omega) (by have := HML.out; omega))
    go_wp2_with fail
    refine HE.out.mono ?_
    rintro e w16 ⟨⟨r, rfl, hr⟩, hb⟩
    have hr1 : r = true := hr.2 rfl
    subst hr1
    have HB16 := Lib.hid (Below.step HB15.out hb)
    have hq := eqInt_any ac ac2 C.length cc2 C C _ (HC.out.s.below hb) (HC2.out.s.below hb) (by have := HCL.out; omega) (by have := HCL.out; omega)
    rw [decide_eq_true (rfl : C = C)] at hq
    have HQ := Lib.hid hq
    clear hr hb HE hq
    go_wp2_with fail
    refine HQ.out.mono ?_
    rintro e w17 ⟨rfl, hb⟩
    have HB17 := Lib.hid (Below.step HB16.out hb)
    clear hb HQ
    go_wp2_with fail
    go_ret
    exact ⟨rfl, HB17.out⟩
  · have HL3 := HWL.out g3 rfl
    have HL3 := Lib.hid HL3
    have H2 := Lib.hid h2
    have H3 := Lib.hid h3
    have H4 := Lib.hid h4
    have H6 := Lib.hid h6
    have H5 := Lib.hid h5
    clear HW HWL h2 h3 h4 h5 h6
    go_wp2_with fail
    refine (spoilIn_any g3 nw nw 5 _ _ H3.out H4.out (by have := H5.out; omega) (Nat.le_refl _)).mono ?_
    rintro e w15 ⟨rfl, hg, _⟩
    have HB15 := Lib.hid (below_grown HB14.out hg (Nat.le_trans HWB.out HZ14.out) (Nat.le_trans HWB.out H2.out))
    have HMX : Hid (AtB 3 tC B am M w15) := ⟨HM.out.s.grown hg H6.out, HM.out.n⟩
    have HCX := Lib.hid (HC.out.grown hg HL3.out)
    have HM2X := Lib.hid (HM2.out.grown hg (Nat.lt_of_lt_of_le HL3.out HS10.out))
    have HC2X := Lib.hid (HC2.out.grown hg (Nat.lt_of_lt_of_le HL3.out (Nat.le_trans HS10.out HS11.out)))
    clear hg HB14 HM HC HM2 HC2 H3
    have HM := HMX
    clear HMX
    have HC := HCX
    clear HCX
    have HM2 := HM2X
    clear HM2X
    have HC2 := HC2X
    clear HC2X
    have HE := Lib.hid (eqTks_any am am2 cm cm2 M M _ HM.out.s HM2.out.s (by have := HML.out; omega) (by have := HML.out; omega))
    go_wp2_with fail
    refine HE.out.mono ?_
    rintro e w16 ⟨⟨r, rfl, hr⟩, hb⟩
    have hr1 : r = true := hr.2 rfl
    subst hr1
    have HB16 := Lib.hid (Below.step HB15.out hb)
    have hq := eqInt_any ac ac2 C.length cc2 C C _ (HC.out.s.below hb) (HC2.out.s.below hb) (by have := HCL.out; omega) (by have := HCL.out; omega)
    rw [decide_eq_true (rfl : C = C)] at hq
    have HQ := Lib.hid hq
    clear hr hb HE hq
    go_wp2_with fail
    refine HQ.out.mono ?_
    rintro e w17 ⟨rfl, hb⟩
    have HB17 := Lib.hid (Below.step HB16.out hb)
    clear hb HQ
    go_wp2_with fail
    go_ret
    exact ⟨rfl, HB17.out⟩
end Go.Proofs.Ytaipojclfpgaaaa
