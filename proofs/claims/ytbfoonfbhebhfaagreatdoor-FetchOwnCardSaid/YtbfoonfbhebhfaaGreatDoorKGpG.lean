/- Joined: FetchI. -/
import Derived.Test.YtbfoonfbhebhfaaGreatDoorKGpC
import Derived.Test.YtbfoonfbhebhfaaGreatDoorKGpD
import Derived.Test.YtbfoonfbhebhfaaGreatDoorKGoK
namespace Go.Proofs.YtbfoonfbhebhfaaGreatDoor
open Go.RowKit Plain Go.Maps Go.ChangeMaps
set_option linter.unusedVariables false
set_option linter.unusedSimpArgs false
inductive IntoR (h : List Bl) : List Bl → List Bl → Prop
 | nil : IntoR h [] h
 | skip {m O : List Bl} {b : Bl} : IntoR h m O → pcode b = 0 → lkL O (pidL b) = some b → IntoR h (m ++ [b]) O
 | add {m O : List Bl} {b : Bl} : IntoR h m O → pcode b = 0 → lkL O (pidL b) = none → NdOk b → (∀ n ∈ ndF b, ∃ d ∈ O, pidL d = n) → O.length < 1000 → IntoR h (m ++ [b]) (O ++ [b])
def IntoBad (h m : List Bl) (c : Int) : Prop := 1000 < h.length ∨ ¬ Cons h ∨ ∃ (i : Nat) (b : Bl) (O : List Bl), m.take (i + 1) = m.take i ++ [b] ∧ IntoR h (m.take i) O ∧
 (pcode b ≠ 0 ∨ (∃ o, lkL O (pidL b) = some o ∧ o ≠ b ∧ c = 11) ∨ (lkL O (pidL b) = none ∧ NdOk b ∧ ¬ (∀ n ∈ ndF b, ∃ d ∈ O, pidL d = n) ∧ c = 9) ∨ ¬ NdOk b ∨ (1000 ≤ O.length ∧ c = 2))
def IntoEnd (h m : List Bl) (w0 : World) (e : Ending) (w : World) : Prop := Below w0.heap.size w0 w ∧
 ((∃ (O : List Bl) (oa : Option Addr) (oc : Nat), IntoR h m O ∧ Cons O ∧ h.length ≤ 1000 ∧ O.length ≤ 1000 ∧ e = .returned (.tuple #[.slice oa O.length oc, .int .i64 0]) ∧ w.ownsRow w0.heap.size 37 2 (.slice oa O.length oc) O.length (O.flatMap blC)) ∨
  (∃ c : Int, c ≠ 0 ∧ e = .returned (.tuple #[.slice none 0 0, .int .i64 c]) ∧ IntoBad h m c))
theorem HpM.lk {l : List Bl} {es : List (List Nat × Bl)} (h : HpM l es) (id : List Nat) : ilk es id = lkL l id := h.2 id
set_option maxRecDepth 100000 in
set_option maxHeartbeats 4000000 in
theorem into_any (ah ab : Option Addr) (ch cb : Nat) (hv q : List Bl) (w : World) (hh : SAt 2 blC w ah hv) (hq : SAt 2 blC w ab q) (zh : hv.length ≤ 9223372036854775807) (zq : q.length ≤ 9223372036854775807) (hT : Tabs w) :
  Calls Tryz.prog 40 #[.slice ah hv.length ch, .slice ab q.length cb] w (IntoEnd hv q w) := by
 obtain ⟨ib0, hib0, hbz0, hbz1, hbz2⟩ := info_parts info_blW
 have HHV := Lib.hid hh
 have HQQ := Lib.hid hq
 have HT := Lib.hid hT
 have HZH := Lib.hid zh
 clear hh hq hT zh
 go_enter Tryz.func40, Tryz.ntmps40
 go_wp2_with fail
 refine (heap_any ah ch hv w HHV.out HZH.out).mono ?_
 rintro e w1 ⟨hb1, ⟨es0, H, hes, hcons, hle, hHw, hmap, rfl⟩ | ⟨hbl, rfl⟩ | ⟨hle, hnc, c, hc, rfl⟩⟩
 rotate_left
 ·
  have HB1 := Lib.hid hb1
  have HBL := Lib.hid hbl
  clear hb1 hbl
  go_wp2_with fail
  go_ret2
  exact ⟨HB1.out, .inr ⟨2, by decide, rfl, .inl HBL.out⟩⟩
 ·
  have HB1 := Lib.hid hb1
  have d1 : (c != 0) = true := by simpa using hc
  have HC := Lib.hid hc
  have HNC := Lib.hid hnc
  clear hb1 hc hnc hle
  go_wp2_with fail
  go_ret2
  exact ⟨HB1.out, .inr ⟨c, HC.out, rfl, .inr (.inl HNC.out)⟩⟩
 have HE0 := Lib.hid hes
 have HC0 := Lib.hid hcons
 have HL0 := Lib.hid hle
 have HB1 := Lib.hid hb1
 have HHW := Lib.hid hHw
 have HM1 := Lib.hid hmap
 clear hb1 hes hcons hle hHw hmap
 go_wp2_with fail
 refine (cloneBl_any ah ch hv w1 (HHV.out.below HB1.out) (by have := HL0.out; omega)).mono ?_
 rintro e w2 ⟨hb2, a2, c2, rfl, how2⟩
 have HB2 := Lib.hid (HB1.out.trans (hb2.mono HB1.out.size))
 have HO2 := Lib.hid (own_baseN how2 HB1.out.size)
 have HM2 := Lib.hid ((hb2.block _ (lt_of_blockW HM1.out)).trans HM1.out)
 clear hb2 how2 HM1
 go_wp2_with fail
 go_loopw [8, 28] (fun ov iv wr => ∃ (i : Nat) (O : List Bl) (es : List (List Nat × Bl)) (oa : Option Addr) (oc : Nat), i ≤ q.length ∧ iv = .int .i64 (i : Int) ∧ ov = .slice oa O.length oc ∧ O.length ≤ 1000 ∧ Hid (IntoR hv (q.take i) O) ∧ Hid (HpM O es) ∧ Hid (Cons O) ∧ Hid (wr.heap[H]? = some (imO blV es)) ∧ Hid (wr.ownsRow w.heap.size 37 2 (.slice oa O.length oc) O.length (O.flatMap blC)) ∧ Hid (Below w.heap.size w wr)) (fun _ iv _ => q.length - (intOf iv).toNat)
 case atStart => exact ⟨0, hv, es0, a2, c2, Nat.zero_le _, rfl, rfl, HL0.out, Lib.hid .nil, HE0, HC0, HM2, HO2, HB2⟩
 case round =>
  obtain ⟨i, O, es, oa, oc, hi, rfl, rfl, hol, HIR, HES, HCN, HMR, HOR, HBR⟩ := hrel
  have holi : (O.length : Int) ≤ 1000 := by omega
  by_cases hlt : i < q.length
  ·
   have m1 : (i : Int) < (q.length : Int) := by omega
   obtain ⟨g, off, rfl, hg, hr⟩ := (HQQ.out.below HBR.out) i hlt
   have htk : q.take (i + 1) = q.take i ++ [q[i]] := List.take_succ_eq_append_getElem hlt
   generalize q[i] = bl at *
   obtain ⟨k, s⟩ := bl
   have HTK := Lib.hid htk
   have r0 : wr.cell? ⟨g, off + i * 2, none⟩ = some (.int .i64 k) := hr 0 _ rfl
   have r1 : wr.cell? ⟨g, off + i * 2 + 1, none⟩ = some (.string s) := hr 1 _ rfl
   have HLT := Lib.hid hlt
   have hna := heap_alloc_new wr (.cells #[.int .i64 k, .string s] 37)
   have hba := (Below.refl wr.heap.size wr).alloc (Nat.le_refl _) (.cells #[.int .i64 k, .string s] 37)
   have HNA := Lib.hid hna
   have HBA := Lib.hid hba
   have a0 := cell_of_row _ _ 0 _ _ _ hna
   have a1 := cell_of_row _ _ 1 _ _ _ hna
   simp only [List.getElem?_toArray, List.getElem?_cons_succ, List.getElem?_cons_zero] at a0 a1
   clear htk hr hg hna hba hlt
   go_wp2_with fail
   refine (pid_any (k, s) _).mono ?_
   rintro e w5 ⟨rfl, hb5⟩
   obtain ⟨d0, d1, d2, d3, d4, d5, d6, d7, hu⟩ := list8W (pidL_length (k, s))
   have HU := Lib.hid hu
   rw [hu]
   have hbc : bC [d0, d1, d2, d3, d4, d5, d6, d7] = #[.int .u8 (d0 : Int), .int .u8 (d1 : Int), .int .u8 (d2 : Int), .int .u8 (d3 : Int), .int .u8 (d4 : Int), .int .u8 (d5 : Int), .int .u8 (d6 : Int), .int .u8 (d7 : Int)] := rfl
   rw [hbc]
   obtain ⟨pc, hpc⟩ : ∃ pc, pcode (k, s) = pc := ⟨_, rfl⟩
   rw [hpc]
   have HPC := Lib.hid hpc
   have HX5 := Lib.hid (HBA.out.trans (hb5.mono HBA.out.size))
   have hn5 := (hb5.block _ (lt_of_block HNA.out)).trans HNA.out
   have hba6 := (Below.refl w5.heap.size w5).alloc (Nat.le_refl _) (.cells #[.int .u8 (d0 : Int), .int .u8 (d1 : Int), .int .u8 (d2 : Int), .int .u8 (d3 : Int), .int .u8 (d4 : Int), .int .u8 (d5 : Int), .int .u8 (d6 : Int), .int .u8 (d7 : Int)] 30)
   have hu6 := heap_alloc_new w5 (.cells #[.int .u8 (d0 : Int), .int .u8 (d1 : Int), .int .u8 (d2 : Int), .int .u8 (d3 : Int), .int .u8 (d4 : Int), .int .u8 (d5 : Int), .int .u8 (d6 : Int), .int .u8 (d7 : Int)] 30)
   have HX6 := Lib.hid (HX5.out.trans (hba6.mono HX5.out.size))
   have HN6 := Lib.hid ((hba6.block _ (lt_of_block hn5)).trans hn5)
   have HU6 := Lib.hid hu6
   have HM6 := Lib.hid ((HX6.out.block _ (lt_of_blockW HMR.out)).trans HMR.out)
   have HO6 := Lib.hid (own_belowK HOR.out HX6.out)
   have HB6 := Lib.hid (HBR.out.trans (HX6.out.mono HBR.out.size))
   have y0 := cell_of_row _ _ 0 _ _ _ HU6.out
   have y1 := cell_of_row _ _ 1 _ _ _ HU6.out
   have y2 := cell_of_row _ _ 2 _ _ _ HU6.out
   have y3 := cell_of_row _ _ 3 _ _ _ HU6.out
   have y4 := cell_of_row _ _ 4 _ _ _ HU6.out
   have y5 := cell_of_row _ _ 5 _ _ _ HU6.out
   have y6 := cell_of_row _ _ 6 _ _ _ HU6.out
   have y7 := cell_of_row _ _ 7 _ _ _ HU6.out
   simp only [List.getElem?_toArray, List.getElem?_cons_zero, List.getElem?_cons_succ] at y0 y1 y2 y3 y4 y5 y6 y7
   have t0 := cell_of_row _ _ 0 _ _ _ HN6.out
   have t1 := cell_of_row _ _ 1 _ _ _ HN6.out
   simp only [List.getElem?_toArray, List.getElem?_cons_succ, List.getElem?_cons_zero] at t0 t1
   clear hu hbc hb5 hn5 hba6 hu6 a0 a1 r0 r1 hpc
   by_cases hc : pc = 0
   rotate_left
   ·
    have z2 : ((pc : Int) != 0) = true := by simp; omega
    have HCI : Hid ((pc : Int) ≠ 0) := Lib.hid (by omega)
    have HNP : Hid (pcode (k, s) ≠ 0) := Lib.hid (by rw [HPC.out]; exact hc)
    clear hc
    go_wp2_with fail
    go_ret2
    exact ⟨HB6.out, .inr ⟨_, HCI.out, rfl, .inr (.inr ⟨i, (k, s), O, HTK.out, HIR.out, .inl HNP.out⟩)⟩⟩
   subst hc
   have hlk := look_id2 blV (w := w5.alloc (.cells #[.int .u8 (d0 : Int), .int .u8 (d1 : Int), .int .u8 (d2 : Int), .int .u8 (d3 : Int), .int .u8 (d4 : Int), .int .u8 (d5 : Int), .int .u8 (d6 : Int), .int .u8 (d7 : Int)] 30)) (b := H) (mt := 97) Tryz.underlying97 (zero_blW _) HM6.out [d0, d1, d2, d3, d4, d5, d6, d7] rfl HES.out.1
   cases hq : ilk es [d0, d1, d2, d3, d4, d5, d6, d7] with
   | some ob =>
    obtain ⟨k2, s2⟩ := ob
    have HQ : Hid (lkL O (pidL (k, s)) = some (k2, s2)) := Lib.hid (by rw [← HES.out.lk, HU.out]; exact hq)
    rw [hq] at hlk
    replace hlk : (Instr.lookup 97 (.map (some H)) (.agg #[.int .u8 (d0 : Int), .int .u8 (d1 : Int), .int .u8 (d2 : Int), .int .u8 (d3 : Int), .int .u8 (d4 : Int), .int .u8 (d5 : Int), .int .u8 (d6 : Int), .int .u8 (d7 : Int)]) true).run Tryz.prog (w5.alloc (.cells #[.int .u8 (d0 : Int), .int .u8 (d1 : Int), .int .u8 (d2 : Int), .int .u8 (d3 : Int), .int .u8 (d4 : Int), .int .u8 (d5 : Int), .int .u8 (d6 : Int), .int .u8 (d7 : Int)] 30)) = .ok (.tuple #[.agg #[.int .i64 k2, .string s2], .bool true]) (w5.alloc (.cells #[.int .u8 (d0 : Int), .int .u8 (d1 : Int), .int .u8 (d2 : Int), .int .u8 (d3 : Int), .int .u8 (d4 : Int), .int .u8 (d5 : Int), .int .u8 (d6 : Int), .int .u8 (d7 : Int)] 30)) := hlk
    have hb7 := (Below.refl (w5.alloc (.cells #[.int .u8 (d0 : Int), .int .u8 (d1 : Int), .int .u8 (d2 : Int), .int .u8 (d3 : Int), .int .u8 (d4 : Int), .int .u8 (d5 : Int), .int .u8 (d6 : Int), .int .u8 (d7 : Int)] 30)).heap.size (w5.alloc (.cells #[.int .u8 (d0 : Int), .int .u8 (d1 : Int), .int .u8 (d2 : Int), .int .u8 (d3 : Int), .int .u8 (d4 : Int), .int .u8 (d5 : Int), .int .u8 (d6 : Int), .int .u8 (d7 : Int)] 30))).alloc (Nat.le_refl _) (.cells #[.int .i64 k2, .string s2] 37)
    have HB7 := Lib.hid (HB6.out.trans (hb7.mono HB6.out.size))
    have HM7 := Lib.hid ((hb7.block _ (lt_of_blockW HM6.out)).trans HM6.out)
    have HO7 := Lib.hid (own_belowK HO6.out hb7)
    have hn7 := (hb7.block _ (lt_of_block HN6.out)).trans HN6.out
    have o0 := cell_of_row _ _ 0 _ _ _ hn7
    have o1 := cell_of_row _ _ 1 _ _ _ hn7
    simp only [List.getElem?_toArray, List.getElem?_cons_succ, List.getElem?_cons_zero] at o0 o1
    clear hq hn7 hb7
    by_cases e1 : k2 = k
    ·
     subst e1
     by_cases e2 : s2 = s
     ·
      subst e2
      have HIR2 : Hid (IntoR hv (q.take (i + 1)) O) := Lib.hid (by rw [HTK.out]; exact .skip HIR.out HPC.out HQ.out)
      go_wp2_with fail
      go_roundw
      case rel => exact ⟨i + 1, O, es, oa, oc, HLT.out, by go_num, rfl, hol, HIR2, HES, HCN, HM7, HO7, HB7⟩
      case measure => simp [intOf]; have := HLT.out; omega
     ·
      have z4 : (s2.toList == s.toList) = false := str_neW e2
      have HNEQ : Hid (((k2, s2) : Bl) ≠ (k2, s)) := Lib.hid (fun h => e2 (congrArg Prod.snd h))
      clear e2
      go_wp2_with fail
      go_ret2
      exact ⟨HB7.out, .inr ⟨11, by decide, rfl, .inr (.inr ⟨i, (k2, s), O, HTK.out, HIR.out, .inr (.inl ⟨_, HQ.out, HNEQ.out, rfl⟩)⟩)⟩⟩
    ·
     have z4 : (k2 == k) = false := beq_eq_false_iff_ne.2 e1
     have HNEQ : Hid (((k2, s2) : Bl) ≠ (k, s)) := Lib.hid (fun h => e1 (congrArg Prod.fst h))
     clear e1
     go_wp2_with fail
     go_ret2
     exact ⟨HB7.out, .inr ⟨11, by decide, rfl, .inr (.inr ⟨i, (k, s), O, HTK.out, HIR.out, .inr (.inl ⟨_, HQ.out, HNEQ.out, rfl⟩)⟩)⟩⟩
   | none =>
    have HQ : Hid (lkL O (pidL (k, s)) = none) := Lib.hid (by rw [← HES.out.lk, HU.out]; exact hq)
    have HQE := Lib.hid hq
    rw [hq] at hlk
    replace hlk : (Instr.lookup 97 (.map (some H)) (.agg #[.int .u8 (d0 : Int), .int .u8 (d1 : Int), .int .u8 (d2 : Int), .int .u8 (d3 : Int), .int .u8 (d4 : Int), .int .u8 (d5 : Int), .int .u8 (d6 : Int), .int .u8 (d7 : Int)]) true).run Tryz.prog (w5.alloc (.cells #[.int .u8 (d0 : Int), .int .u8 (d1 : Int), .int .u8 (d2 : Int), .int .u8 (d3 : Int), .int .u8 (d4 : Int), .int .u8 (d5 : Int), .int .u8 (d6 : Int), .int .u8 (d7 : Int)] 30)) = .ok (.tuple #[.agg #[.int .i64 0, .string ⟨#[]⟩], .bool false]) (w5.alloc (.cells #[.int .u8 (d0 : Int), .int .u8 (d1 : Int), .int .u8 (d2 : Int), .int .u8 (d3 : Int), .int .u8 (d4 : Int), .int .u8 (d5 : Int), .int .u8 (d6 : Int), .int .u8 (d7 : Int)] 30)) := hlk
    have hb7 := (Below.refl (w5.alloc (.cells #[.int .u8 (d0 : Int), .int .u8 (d1 : Int), .int .u8 (d2 : Int), .int .u8 (d3 : Int), .int .u8 (d4 : Int), .int .u8 (d5 : Int), .int .u8 (d6 : Int), .int .u8 (d7 : Int)] 30)).heap.size (w5.alloc (.cells #[.int .u8 (d0 : Int), .int .u8 (d1 : Int), .int .u8 (d2 : Int), .int .u8 (d3 : Int), .int .u8 (d4 : Int), .int .u8 (d5 : Int), .int .u8 (d6 : Int), .int .u8 (d7 : Int)] 30))).alloc (Nat.le_refl _) (.cells #[.int .i64 0, .string ⟨#[]⟩] 37)
    have HB7 := Lib.hid (HB6.out.trans (hb7.mono HB6.out.size))
    have HM7 := Lib.hid ((hb7.block _ (lt_of_blockW HM6.out)).trans HM6.out)
    have HO7 := Lib.hid (own_belowK HO6.out hb7)
    have hn7 := (hb7.block _ (lt_of_block HN6.out)).trans HN6.out
    have HN7 := Lib.hid hn7
    have HU7 := Lib.hid ((hb7.block _ (lt_of_block HU6.out)).trans HU6.out)
    have o0 := cell_of_row _ _ 0 _ _ _ hn7
    have o1 := cell_of_row _ _ 1 _ _ _ hn7
    simp only [List.getElem?_toArray, List.getElem?_cons_succ, List.getElem?_cons_zero] at o0 o1
    have HCM := Lib.hid (complete_any HES.out.1 (H := H) k s ((w5.alloc (.cells #[.int .u8 (d0 : Int), .int .u8 (d1 : Int), .int .u8 (d2 : Int), .int .u8 (d3 : Int), .int .u8 (d4 : Int), .int .u8 (d5 : Int), .int .u8 (d6 : Int), .int .u8 (d7 : Int)] 30)).alloc (.cells #[.int .i64 0, .string ⟨#[]⟩] 37)) HM7.out (HT.out.below HB7.out))
    clear hq hn7 hb7
    go_wp2_with fail
    refine HCM.out.mono ?_
    rintro e w8 ⟨hb8, c, rfl, hcc⟩
    have HB8 := Lib.hid (HB7.out.trans (hb8.mono HB7.out.size))
    have HM8 := Lib.hid ((hb8.block _ (lt_of_blockW HM7.out)).trans HM7.out)
    have HO8 := Lib.hid (own_belowK HO7.out hb8)
    have HN8 := Lib.hid ((hb8.block _ (lt_of_block HN7.out)).trans HN7.out)
    have HU8 := Lib.hid ((hb8.block _ (lt_of_block HU7.out)).trans HU7.out)
    have HCC := Lib.hid hcc
    clear hb8 hcc HCM HO6 HM6 HB6 HO7 HM7 HB7 HN6 HU6 HN7 HU7 o0 o1 t0 t1 y0 y1 y2 y3 y4 y5 y6 y7 hlk
    by_cases hc0 : c = 0
    rotate_left
    ·
     have c1 : (c != 0) = true := by simpa using hc0
     have HCI := Lib.hid hc0
     clear hc0
     go_wp2_with fail
     go_ret2
     refine ⟨HB8.out, .inr ⟨c, HCI.out, rfl, .inr (.inr ⟨i, (k, s), O, HTK.out, HIR.out, ?_⟩)⟩⟩
     rcases HCC.out with ⟨_, _, h⟩ | ⟨h1, h2, h3⟩ | ⟨h1, _⟩
     ·
      exact absurd h HCI.out
     ·
      exact .inr (.inr (.inl ⟨HQ.out, h1, fun h => h2 (fun n hn => (HES.out.has n).2 (h n hn)), h3⟩))
     ·
      exact .inr (.inr (.inr (.inl h1)))
    subst hc0
    have HOK : Hid (NdOk (k, s) ∧ ∀ n ∈ ndF (k, s), ∃ d ∈ O, pidL d = n) := Lib.hid (by
     rcases HCC.out with ⟨h1, h2, _⟩ | ⟨_, _, h3⟩ | ⟨_, h3⟩
     ·
      exact ⟨h1, fun n hn => (HES.out.has n).1 (h2 n hn)⟩
     ·
      cases h3
     ·
      exact absurd rfl h3)
    by_cases h1000 : 1000 ≤ O.length
    ·
     have c1 : (1000 : Int) ≤ (O.length : Int) := by omega
     have HBG := Lib.hid h1000
     clear h1000
     go_wp2_with fail
     go_ret2
     exact ⟨HB8.out, .inr ⟨2, by decide, rfl, .inr (.inr ⟨i, (k, s), O, HTK.out, HIR.out, .inr (.inr (.inr (.inr ⟨HBG.out, rfl⟩)))⟩)⟩⟩
    have c1 : ¬ (1000 : Int) ≤ (O.length : Int) := by omega
    have HSM : Hid (O.length < 1000) := Lib.hid (by omega)
    have HIR2 : Hid (IntoR hv (q.take (i + 1)) (O ++ [(k, s)])) := Lib.hid (by rw [HTK.out]; exact .add HIR.out HPC.out HQ.out HOK.out.1 HOK.out.2 HSM.out)
    have HES2 : Hid (HpM (O ++ [(k, s)]) (es ++ [([d0, d1, d2, d3, d4, d5, d6, d7], (k, s))])) := Lib.hid (by have := HES.out.new (k, s); rw [HU.out] at this; exact this)
    have HCN2 : Hid (Cons (O ++ [(k, s)])) := Lib.hid (HCN.out.snoc HPC.out (fun c h => by rw [HQ.out] at h; cases h))
    have hput := put_id8 blV (mt := 97) Tryz.underlying97 HM8.out [d0, d1, d2, d3, d4, d5, d6, d7] ((k : Int), s) rfl HES.out.1 HQE.out
    replace hput : (Instr.mapUpdate 97 (.map (some H)) (.agg #[.int .u8 (d0 : Int), .int .u8 (d1 : Int), .int .u8 (d2 : Int), .int .u8 (d3 : Int), .int .u8 (d4 : Int), .int .u8 (d5 : Int), .int .u8 (d6 : Int), .int .u8 (d7 : Int)]) (.agg #[.int .i64 k, .string s])).run Tryz.prog w8 = .ok () (setBlock w8 H (imO blV (es ++ [([d0, d1, d2, d3, d4, d5, d6, d7], (k, s))]))) := hput
    have HM9 := Lib.hid (setBlockI_same blV HM8.out (imO blV (es ++ [([d0, d1, d2, d3, d4, d5, d6, d7], (k, s))])))
    have HB9 := Lib.hid (below_setBlockI HB8.out HHW.out (imO blV (es ++ [([d0, d1, d2, d3, d4, d5, d6, d7], (k, s))])))
    have HO9 := Lib.hid (own_setBlockV (S := H) HO8.out (imO blV (es ++ [([d0, d1, d2, d3, d4, d5, d6, d7], (k, s))])) (fun g hg e => by
     obtain ⟨_, _, cs, h3⟩ := own_typ HO8.out hg
     subst e
     exact not_map_cells h3 HM8.out))
    have hn9 := (setBlockI_other (w := w8) (b := H) (imO blV (es ++ [([d0, d1, d2, d3, d4, d5, d6, d7], (k, s))])) (fun e => not_map_cells (e ▸ HN8.out) HM8.out)).trans HN8.out
    have p0 := cell_of_row _ _ 0 _ _ _ HU8.out
    have p1 := cell_of_row _ _ 1 _ _ _ HU8.out
    have p2 := cell_of_row _ _ 2 _ _ _ HU8.out
    have p3 := cell_of_row _ _ 3 _ _ _ HU8.out
    have p4 := cell_of_row _ _ 4 _ _ _ HU8.out
    have p5 := cell_of_row _ _ 5 _ _ _ HU8.out
    have p6 := cell_of_row _ _ 6 _ _ _ HU8.out
    have p7 := cell_of_row _ _ 7 _ _ _ HU8.out
    simp only [List.getElem?_toArray, List.getElem?_cons_zero, List.getElem?_cons_succ] at p0 p1 p2 p3 p4 p5 p6 p7
    have b0 := cell_of_row _ _ 0 _ _ _ HN8.out
    have b1 := cell_of_row _ _ 1 _ _ _ HN8.out
    have f0 := cell_of_row _ _ 0 _ _ _ hn9
    have f1 := cell_of_row _ _ 1 _ _ _ hn9
    simp only [List.getElem?_toArray, List.getElem?_cons_succ, List.getElem?_cons_zero] at b0 b1 f0 f1
    have D1 := Lib.hid (cells_new_at (setBlock w8 H (imO blV (es ++ [([d0, d1, d2, d3, d4, d5, d6, d7], (k, s))]))) (setBlock w8 H (imO blV (es ++ [([d0, d1, d2, d3, d4, d5, d6, d7], (k, s))]))).heap.size rfl #[.int .i64 k, .string s] 37 (blC (k, s)) rfl)
    have D2 := Lib.hid (blC_one (k, s))
    have D3 : Hid (O.length + 1 ≤ maxLen) := Lib.hid (by unfold maxLen; omega)
    have D4 : Hid ((O.length + 1) * 24 ≤ 140737488355328) := Lib.hid (by omega)
    have D5 : Hid (w.heap.size ≤ ((setBlock w8 H (imO blV (es ++ [([d0, d1, d2, d3, d4, d5, d6, d7], (k, s))]))).alloc (.cells #[.int .i64 k, .string s] 37)).heap.size) := Lib.hid (by have := HB9.out.size; simp; omega)
    clear h1000 hn9
    go_wp2_with (at_builtin; refine wpList_append_own _ rfl _ _ 28 rfl w.heap.size 37 ib0 (.agg #[.int .i64 0, .string ⟨#[]⟩]) 2 24 Tryz.underlying28 hib0 hbz0 hbz1 hbz2 rfl (by decide) _ _ _ rfl (HO9.out.alloc _) ⟨(setBlock w8 H (imO blV (es ++ [([d0, d1, d2, d3, d4, d5, d6, d7], (k, s))]))).heap.size, 0, none⟩ 1 1 (blC (k, s)) rfl rfl D1.out D2.out D3.out D4.out D5.out ?_)
    intro v' wC hown' hgrow _
    have BW := Lib.hid (below_own (HB9.out.alloc HB9.out.size (.cells #[.int .i64 k, .string s] 37)) hgrow D5.out (HO9.out.alloc _) (Nat.le_refl _))
    obtain ⟨oa2, oc2, rfl⟩ := own_formK hown'
    have HMC := Lib.hid ((hgrow.block H (lt_of_blockW ((Below.heap_alloc _ (.cells #[.int .i64 k, .string s] 37) _ (lt_of_blockW HM9.out)).trans HM9.out)) (fun e => by
     obtain ⟨_, _, cs, h3⟩ := own_typ HO9.out e.symm
     exact not_map_cells h3 HM9.out)).trans ((Below.heap_alloc _ (.cells #[.int .i64 k, .string s] 37) _ (lt_of_blockW HM9.out)).trans HM9.out))
    have HEL : Hid ((O ++ [((k, s) : Bl)]).length = O.length + 1) := Lib.hid (by rw [List.length_append]; rfl)
    have OW : Hid (wC.ownsRow w.heap.size 37 2 (.slice oa2 (O ++ [((k, s) : Bl)]).length oc2) (O ++ [((k, s) : Bl)]).length ((O ++ [((k, s) : Bl)]).flatMap blC)) := Lib.hid (by
     rw [HEL.out, List.flatMap_append, List.flatMap_singleton]
     exact hown')
    clear hown' hgrow b0 b1 f0 f1 p0 p1 p2 p3 p4 p5 p6 p7 hput
    go_wp2_with fail
    go_roundw
    case rel => exact ⟨i + 1, O ++ [(k, s)], _, oa2, oc2, HLT.out, by go_num, by rw [HEL.out], by rw [HEL.out]; exact HSM.out, HIR2, HES2, HCN2, HMC, OW, BW⟩
    case measure => simp [intOf]; have := HLT.out; omega
  ·
   have m1 : ¬ (i : Int) < (q.length : Int) := by omega
   obtain rfl : i = q.length := by omega
   have hir := HIR.out
   rw [List.take_length] at hir
   have HIF := Lib.hid hir
   clear hir
   go_wp2_with fail
   go_ret2
   exact ⟨HBR.out, .inl ⟨O, oa, oc, HIF.out, HCN.out, HL0.out, hol, rfl, HOR.out⟩⟩
end Go.Proofs.YtbfoonfbhebhfaaGreatDoor
