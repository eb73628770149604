/- Deeds played upon a new disk; the disk that stores. -/
import Derived.Test.YtmnmgoafemnppaaDiskPlay
import Derived.Test.YtmnmgoafemnppaaStrCalls
namespace Go.Proofs.Ytmnmgoafemnppaa
open Go.RowKit Plain Go.Maps
set_option linter.unusedVariables false
set_option linter.unusedSimpArgs false
theorem sat_tB {w : World} {a : Option Addr} {l : List TB} (h : SAt 1 sTB w a l) : SAt 1 sC w a (l.map tB) := fun i hi => by
  have hi' : i < l.length := by simpa using hi
  obtain ⟨g, off, e, hg, hr⟩ := h i hi'
  refine ⟨g, off, e, hg, ?_⟩
  rw [List.getElem_map]
  exact hr
theorem map_tB_inj {l m : List TB} : l.map tB = m.map tB ↔ l = m := by
  constructor
  · intro h
    have := congrArg (List.map bT) h
    simpa [List.map_map, Function.comp_def, bT_tB] using this
  · rintro rfl; rfl
theorem eqT_any (a b : Option Addr) (ca cb : Nat) (l m : List TB) (w : World) (hl : SAt 1 sTB w a l) (hm : SAt 1 sTB w b m) (nl : l.length ≤ 9223372036854775807) (nm : m.length ≤ 9223372036854775807) :
    Calls Try.prog 13 #[.slice a l.length ca, .slice b m.length cb] w fun e w' => e = .returned (.bool (decide (l = m))) ∧ Below w.heap.size w w' := by
  have h := eqStr_any a b ca cb (l.map tB) (m.map tB) w (sat_tB hl) (sat_tB hm) (by rw [List.length_map]; exact nl) (by rw [List.length_map]; exact nm)
  rw [List.length_map, List.length_map] at h
  refine h.mono ?_
  rintro e w' ⟨he, q, hq⟩
  exact ⟨by rw [he, decide_eq_decide.2 map_tB_inj], by rw [hq]; exact below_dn (Below.refl _ _) q⟩
theorem DS.low {base base' p N : Nat} {d : Dst} {w : World} (h : DS base p N d w) (hb : base' ≤ base) : DS base' p N d w := by
  obtain ⟨f, g, nf, ng, DF, DG, ca, cc, h1, h2, h3, h4, h5, h6, h7⟩ := h
  refine ⟨f, g, nf, ng, DF, DG, ca, cc, h1, h2, h3, h4, ⟨by omega, by omega, by omega⟩, ⟨h6.1, ?_⟩, h7⟩
  rcases h6.2 with hv | ⟨g, cap, cur, hv, hB, hg⟩
  · exact .inl hv
  · exact .inr ⟨g, cap, cur, hv, by omega, hg⟩
/-- what every deed keeps is so in the end -/
def ReachD (L : List Dd) (d : Dst) : Prop := ∀ J : Dst → Prop, J (Dst.new 1073741824) → (∀ d x e d', x ∈ L → J d → DdStep d x e d' → J d') → J d
theorem ReachD.start (L : List Dd) : ReachD L (Dst.new 1073741824) := fun J h _ => h
theorem ReachD.step {L : List Dd} {d d' : Dst} {x : Dd} {e : Int} (h : ReachD L d) (hx : x ∈ L) (hs : DdStep d x e d') : ReachD L d' := fun J h1 h2 => h2 d x e d' hx (h J h1 h2) hs
def PlEnd (w0 : World) (L : List MD) (w : World) (e : Ending) (w' : World) : Prop := ∃ (p : Nat) (d : Dst), e = .returned (.pointer (some ⟨p, 0, none⟩)) ∧ DS w0.heap.size p L.length d w' ∧ ReachD (L.map ddOf) d ∧ FR w0.heap.size w w'
set_option maxRecDepth 100000 in
set_option maxHeartbeats 4000000 in
theorem played_any {w0 w : World} (a : Option Addr) (cap : Nat) (L : List MD) (h : SAt 5 mdC w0 a L) (hm : ∀ m ∈ L, MdOk w0 m) (hl : L.length ≤ 4398046511104) (hb : Below w0.heap.size w0 w) :
    Calls Try.prog 8 #[.slice a L.length cap] w (PlEnd w0 L w) := by
  have HNW := Lib.hid (dnew_any 1073741824 (by decide) (by decide) w)
  have HB := Lib.hid hb
  have HS := Lib.hid h
  have HM := Lib.hid hm
  have hl63 : (L.length : Int) ≤ 4398046511104 := by omega
  have HLN := Lib.hid hl
  have HDE := Lib.hid fun (m : MD) (p N : Nat) (d : Dst) (W : World) (h1 : MdOk w0 m) (h2 : Below w0.heap.size w0 W) (h3 : N ≤ 4398046511104) (h4 : DS w0.heap.size p N d W) => deed_any m h1 h2 h3 h4
  clear h hm hb
  go_enter Try.func8, Try.ntmps8
  go_wp2_with fail
  refine HNW.out.mono ?_
  rintro e w1 ⟨rfl, hds, hb1⟩
  have HDS := Lib.hid (hds.low HB.out.size)
  have HF1 := Lib.hid (FR.of_below hb1 HB.out.size)
  clear hds hb1 HNW
  generalize w.heap.size + 2 = p at *
  go_wp2_with fail
  go_loopw [13] (fun iv wr => ∃ (i : Nat) (d : Dst), i ≤ L.length ∧ iv = .int .i64 (i : Int) ∧ Hid (DS w0.heap.size p i d wr) ∧ Hid (ReachD (L.map ddOf) d) ∧ Hid (FR w0.heap.size w wr)) (fun iv _ => L.length - (intOf iv).toNat)
  case atStart => exact ⟨0, Dst.new 1073741824, by omega, rfl, HDS, Lib.hid (ReachD.start _), HF1⟩
  case round =>
    obtain ⟨i, d, hi, rfl, HD, HR, HF⟩ := hrel
    by_cases hlt : i < L.length
    · have m1 : (i : Int) < (L.length : Int) := by omega
      have HBR := Lib.hid (HB.out.trans HF.out.1)
      obtain ⟨g, off, rfl, hg, hr⟩ := (HS.out.below HBR.out) i hlt
      have y0 := hr 0 _ rfl
      have y1 := hr 1 _ rfl
      have y2 := hr 2 _ rfl
      have y3 := hr 3 _ rfl
      have y4 := hr 4 _ rfl
      simp only [Nat.add_zero] at y0
      have HMO := Lib.hid (HM.out _ (List.getElem_mem hlt))
      have HIN : Hid (ddOf L[i] ∈ L.map ddOf) := Lib.hid (List.mem_map.2 ⟨_, List.getElem_mem hlt, rfl⟩)
      have HIL : Hid (i ≤ 4398046511104) := Lib.hid (by have := HLN.out; omega)
      clear hg hr
      generalize L[i] = m at *
      obtain ⟨k, nm, tx, n, ka, kc, K⟩ := m
      have HAL := Lib.hid ((Below.refl wr.heap.size wr).alloc (Nat.le_refl _) (.cells #[.int .i64 k, .string nm, .string tx, .int .i64 n, .slice ka K.length kc] 37))
      have HDA := Lib.hid (HD.out.below HAL.out)
      have HFA := Lib.hid (HF.out.trans (FR.of_below HAL.out HD.out.base_le))
      have HBA := Lib.hid (HB.out.trans HFA.out.1)
      have HCALL := Lib.hid (HDE.out (k, nm, tx, n, ka, kc, K) p i d _ HMO.out HBA.out HIL.out HDA.out)
      simp only [mdC] at HCALL
      clear HAL HDE
      go_wp2_with fail
      refine HCALL.out.mono ?_
      rintro e w2 ⟨c, d', rfl, hs, hd, hf⟩
      have HD2 := Lib.hid hd
      have HR2 := Lib.hid (HR.out.step HIN.out hs)
      have HF2 := Lib.hid (HFA.out.trans hf)
      clear hs hd hf HCALL
      go_wp2_with fail
      go_roundw
      case rel => exact ⟨i + 1, d', by omega, by go_num, HD2, HR2, HF2⟩
      case measure => simp [intOf]; omega
    · have m1 : ¬ (i : Int) < (L.length : Int) := by omega
      obtain rfl : i = L.length := by omega
      go_wp2_with fail
      go_ret
      exact ⟨p, d, rfl, HD.out, HR.out, HF.out⟩
theorem sat_two {w : World} {B : Nat} {x y : TB} {t : TypeId} (h : w.heap[B]? = some (.cells #[.string (tB x), .string (tB y)] t (0, 0))) : SAt 1 sTB w (some ⟨B, 0, none⟩) [x, y] := fun i hi => by
  refine ⟨B, 0, rfl, lt_of_block h, fun j u hu => ?_⟩
  have hi2 : i < 2 := hi
  have hj : j < 1 := by
    rcases Nat.lt_or_ge j 1 with h | h
    · exact h
    · rw [List.getElem?_eq_none (by rw [sTB_length]; exact h)] at hu; cases hu
  obtain rfl : j = 0 := by omega
  rw [cell_of_row _ _ _ _ _ _ h]
  rcases (by omega : i = 0 ∨ i = 1) with rfl | rfl
  · exact hu
  · exact hu
set_option maxRecDepth 100000 in
set_option maxHeartbeats 4000000 in
theorem stored_any (w : World) : Calls Try.prog 7 #[] w fun e w' => e = .returned (.bool true) ∧ Below w.heap.size w w' := by
  have HNW := Lib.hid (dnew_any 10 (by decide) (by decide) w)
  go_enter Try.func7, Try.ntmps7
  go_wp2_with fail
  refine HNW.out.mono ?_
  rintro e w1 ⟨rfl, hds, hb1⟩
  have HDS := Lib.hid hds
  have HB1 := Lib.hid hb1
  clear hds hb1 HNW
  generalize hp : w.heap.size + 2 = p at *
  clear hp
  have HW1 := Lib.hid (dwrite_any ⟨#[97]⟩ ⟨#[120]⟩ (by decide) (by decide) (by decide) HDS.out)
  go_wp2_with fail
  refine HW1.out.mono ?_
  rintro e w2 ⟨c, d2, rfl, hs, hd, hf, hsm⟩
  have hc : c = 0 := hsm ⟨rfl, by decide, by decide, by decide, 0, fun k v h => (by cases h), by decide⟩
  subst hc
  have hd2 : d2 = (Dst.new 10).act (.wr [97] [120]) := by
    rcases hs with ⟨h1, _, _⟩ | ⟨_, ⟨h1, _⟩ | ⟨_, h1, _⟩⟩
    · cases h1
    · exact absurd rfl h1
    · exact h1
  subst hd2
  have HD2 := Lib.hid hd
  have HB2 := Lib.hid (HB1.out.trans hf.1)
  clear hs hd hf hsm HW1 HB1 HDS
  have HSY := Lib.hid (dsync_any HD2.out)
  go_wp2_with fail
  refine HSY.out.mono ?_
  rintro e w3 ⟨c, d3, rfl, hs, hd, hf⟩
  obtain ⟨rfl, rfl⟩ : c = 0 ∧ d3 = ((Dst.new 10).act (.wr [97] [120])).sync := by
    rcases hs with ⟨h1, _, _⟩ | ⟨_, h1, h2⟩
    · cases h1
    · exact ⟨h1, h2⟩
  have HD3 := Lib.hid hd
  have HB3 := Lib.hid (HB2.out.trans hf.1)
  clear hs hd hf HSY HB2 HD2
  have HW2 := Lib.hid (dwrite_any ⟨#[98]⟩ ⟨#[121]⟩ (by decide) (by decide) (by decide) HD3.out)
  go_wp2_with fail
  refine HW2.out.mono ?_
  rintro e w4 ⟨c, d4, rfl, hs, hd, hf, hsm⟩
  have hc : c = 0 := hsm ⟨rfl, by decide, by decide, by decide, 1, fun k v h => (by
    have h : (if k = [97] then some [120] else none) = some v := h
    by_cases e : k = [97]
    · rw [if_pos e] at h; injection h with h; subst h; decide
    · rw [if_neg e] at h; cases h), by decide⟩
  subst hc
  have hd4 : d4 = (((Dst.new 10).act (.wr [97] [120])).sync).act (.wr [98] [121]) := by
    rcases hs with ⟨h1, _, _⟩ | ⟨_, ⟨h1, _⟩ | ⟨_, h1, _⟩⟩
    · cases h1
    · exact absurd rfl h1
    · exact h1
  subst hd4
  have HD4 := Lib.hid hd
  have HB4 := Lib.hid (HB3.out.trans hf.1)
  clear hs hd hf hsm HW2 HB3 HD3
  have HCR := Lib.hid (crash_any none 0 [] (fun W _ => SAt.nil) (by decide) (by simp) (by decide) HD4.out)
  go_wp2_with fail
  refine HCR.out.mono ?_
  rintro e w5 ⟨hf, rfl, hd⟩
  have HD5 := Lib.hid hd
  have HB5 := Lib.hid (HB4.out.trans hf.1)
  clear hd hf HCR HB4 HD4
  have HFL := Lib.hid (files_any (by decide) HD5.out)
  go_wp2_with fail
  refine HFL.out.mono ?_
  rintro e w6 ⟨hb, ks, a, cc, hks, rfl, ho⟩
  have hk1 : ks = [[97]] := by
    refine KS.unique (hks rfl) ⟨by simp, fun k => ?_, by simp⟩
    show k ∈ [[97]] ↔ (if k = [97] then some [120] else none : Option TB).isSome = true
    by_cases e : k = [97]
    · subst e; simp
    · rw [if_neg e]; simp [e]
  subst hk1
  have hfl : flF (Dst.crash ((((Dst.new 10).act (.wr [97] [120])).sync).act (.wr [98] [121])) []).F [[97]] = [[97], [120]] := by rfl
  rw [hfl] at ho ⊢
  have HB6 := Lib.hid (Below.step HB5.out hb)
  obtain ⟨a1, c1, e1, _, _, hs1⟩ := SAt.own ho sTB_length
  injection e1 with e1 _ e3
  subst e1
  subst e3
  have HS6 := Lib.hid hs1
  have HAL := Lib.hid ((Below.refl w6.heap.size w6).alloc (Nat.le_refl _) (.cells #[.string (tB [97]), .string (tB [120])] 9))
  have HS2 := Lib.hid (sat_two (heap_alloc_new w6 (.cells #[.string (tB [97]), .string (tB [120])] 9)))
  have HEQ := Lib.hid (eqT_any a (some ⟨w6.heap.size, 0, none⟩) cc 2 [[97], [120]] [[97], [120]] _ (HS6.out.below HAL.out) HS2.out (by decide) (by decide))
  have HB7 := Lib.hid (Below.step HB6.out HAL.out)
  clear hb hks ho hfl hs1 HFL HB5 HB6 HD5
  go_wp2_with fail
  refine HEQ.out.mono ?_
  rintro e w7 ⟨rfl, hb⟩
  have HB8 := Lib.hid (Below.step HB7.out hb)
  clear hb HEQ
  go_wp2_with fail
  go_ret
  exact ⟨by simp, HB8.out⟩
end Go.Proofs.Ytmnmgoafemnppaa
