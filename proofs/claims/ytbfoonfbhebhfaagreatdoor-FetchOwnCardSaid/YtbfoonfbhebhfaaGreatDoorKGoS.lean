/- Joined: WalkNeeds. -/
import Derived.Test.YtbfoonfbhebhfaaGreatDoorKGoK
import Derived.Test.YtbfoonfbhebhfaaGreatDoorKGoI
import Derived.Test.YtbfoonfbhebhfaaGreatDoorKGoG
namespace Go.Proofs.YtbfoonfbhebhfaaGreatDoor
open Go.RowKit Plain Go.Maps Go.ChangeMaps
set_option linter.unusedVariables false
set_option linter.unusedSimpArgs false
def NdOk (b : Bl) : Prop := pcode b = 0 ∧ (b.1 = 2 → ∃ ms, ROk b.2 ms)
def NdEnd (b : Bl) (w0 : World) (e : Ending) (w : World) : Prop := Below w0.heap.size w0 w ∧
 ((NdOk b ∧ ∃ (oa : Option Addr) (oc : Nat), e = .returned (.tuple #[.slice oa (ndF b).length oc, .int .i64 0]) ∧ w.ownsRow w0.heap.size 30 8 (.slice oa (ndF b).length oc) (ndF b).length ((ndF b).flatMap idK) ∧ (ndF b).length ≤ 20000 ∧ IdsL (ndF b)) ∨
  (¬ NdOk b ∧ ∃ c : Int, c ≠ 0 ∧ e = .returned (.tuple #[.slice none 0 0, .int .i64 c])))
theorem ptsOf_snocN (l : List MN) (m : MN) : ptsOf (l ++ [m]) = ptsOf l ++ (idsN m).map idL := by simp [ptsOf]
theorem ddp_ids (l : List MN) : IdsL (ddp (ptsOf l)) := fun x hx => by
 rw [ddp_mem] at hx
 obtain ⟨m, _, h⟩ := List.mem_flatMap.1 hx
 obtain ⟨i, _, rfl⟩ := List.mem_map.1 h
 rfl
theorem ddp_ids2 (l : List MN) (ids : List ID8) : IdsL (ddp (ptsOf l ++ ids.map idL)) := fun x hx => by
 rw [ddp_mem] at hx
 rcases List.mem_append.1 hx with h | h
 ·
  obtain ⟨m, _, h⟩ := List.mem_flatMap.1 h
  obtain ⟨i, _, rfl⟩ := List.mem_map.1 h
  rfl
 ·
  obtain ⟨i, _, rfl⟩ := List.mem_map.1 h
  rfl
theorem flat_getI : ∀ {l : List (List Nat)}, (∀ x ∈ l, (idK x).length = 8) → ∀ (i j : Nat) (hi : i < l.length), j < 8 → (l.flatMap idK)[i * 8 + j]? = (idK l[i])[j]?
 | [], _, i, _, hi, _ => absurd hi (Nat.not_lt_zero _)
 | x :: l, h, 0, j, _, hj => by
  rw [List.flatMap_cons, List.getElem?_append_left (by rw [h x List.mem_cons_self]; omega)]
  simp
 | x :: l, h, i + 1, j, hi, hj => by
  have h8 := h x List.mem_cons_self
  rw [List.flatMap_cons, List.getElem?_append_right (by rw [h8]; omega), h8, show (i + 1) * 8 + j - 8 = i * 8 + j from by omega, flat_getI (fun y hy => h y (List.mem_cons_of_mem _ hy)) i j (by simpa using hi) hj]
  rfl
theorem own_satI {w : World} {base : Nat} {a : Option Addr} {cc : Nat} {l : List (List Nat)} {T : TypeId} (hl : IdsL l) (h : w.ownsRow base T 8 (.slice a l.length cc) l.length (l.flatMap idK)) : SAt 8 idK w a l := by
 intro i hi
 have h8 : ∀ x ∈ l, (idK x).length = 8 := fun x hx => sizeK_id x (hl x hx)
 rcases h.2 with ⟨h0, h1⟩ | ⟨g, cap, cur, h0, hB, hg, hn, hm, hcs, htk⟩
 ·
  omega
 ·
  injection h0 with h0 _ h3
  refine ⟨g, 0, h0, lt_of_blockW hg, fun j v hj => ?_⟩
  have hj8 : j < 8 := by
   rcases Nat.lt_or_ge j 8 with h | h
   ·
    exact h
   ·
    rw [List.getElem?_eq_none (by rw [h8 _ (List.getElem_mem hi)]; exact h)] at hj; cases hj
  rw [cell_of_row _ _ _ _ _ _ hg, Nat.zero_add]
  have hfl := flat_getI h8 i j hi hj8
  rw [← htk, List.getElem?_take_of_lt (by omega)] at hfl
  rw [← Array.getElem?_toList, hfl]
  exact hj
theorem own_baseN {w : World} {base b2 : Nat} {e : TypeId} {k : Nat} {v : Value} {n : Nat} {xs : List Value} (h : w.ownsRow base e k v n xs) (hb : b2 ≤ base) : w.ownsRow b2 e k v n xs := by
 refine ⟨h.1, ?_⟩
 rcases h.2 with h | ⟨g, c, cur, h0, h1, h2⟩
 ·
  exact .inl h
 ·
  exact .inr ⟨g, c, cur, h0, Nat.le_trans hb h1, h2⟩
set_option maxRecDepth 100000 in
set_option maxHeartbeats 2000000 in
theorem needs_any (k : Int) (s : ByteArray) (w : World) (hT : Tabs w) :
  Calls Tryz.prog 24 #[.agg #[.int .i64 k, .string s]] w (NdEnd (k, s) w) := by
 obtain ⟨ii0, hi0, hz0, hz1, hz2⟩ := info_parts info_idW
 have hb0 := (Below.refl w.heap.size w).alloc (Nat.le_refl _) (.cells #[.int .i64 k, .string s] 37)
 have hr0 := heap_alloc_new w (.cells #[.int .i64 k, .string s] 37)
 have HB0 := Lib.hid hb0
 have HR0 := Lib.hid hr0
 have HT := Lib.hid hT
 have a0 := cell_of_row _ _ 0 _ _ _ hr0
 have a1 := cell_of_row _ _ 1 _ _ _ hr0
 simp only [List.getElem?_toArray, List.getElem?_cons_zero, List.getElem?_cons_succ] at a0 a1
 clear hb0 hr0 hT
 go_enter Tryz.func24, Tryz.ntmps24
 go_wp2_with fail
 refine (pid_any (k, s) _).mono ?_
 rintro e w1 ⟨rfl, hb1⟩
 have hil := pidL_length (k, s)
 obtain ⟨idl, hidl⟩ : ∃ idl, pidL (k, s) = idl := ⟨_, rfl⟩
 obtain ⟨pc, hpc⟩ : ∃ pc, pcode (k, s) = pc := ⟨_, rfl⟩
 rw [hidl] at hil ⊢
 rw [hpc]
 have HPC := Lib.hid hpc
 have hn1 := (hb1.block _ (lt_of_block HR0.out)).trans HR0.out
 have hb1' := HB0.out.trans (hb1.mono HB0.out.size)
 have hz1' := heap_alloc_new w1 (.cells z8A 30)
 have HTH : Hid ((w1.alloc (.cells z8A 30)).there w1.heap.size 0 (bC idl).size) := Lib.hid (there_idB hz1' rfl hil)
 have HIB : Hid ((Tryz.prog.info? 30).map (·.size) = some (bC idl).size) := Lib.hid (info_idB hil)
 have HOB : Hid ((bC idl).all (·.oneCell') = true) := Lib.hid (bC_oneP idl)
 obtain ⟨w2, hw2⟩ : ∃ w2, (w1.alloc (.cells z8A 30)).setCells w1.heap.size 0 (bC idl).toList = w2 := ⟨_, rfl⟩
 have hold : ∀ g, g < w1.heap.size → w2.heap[g]? = w1.heap[g]? := fun g hg => by
  rw [← hw2, heap_setCells_other _ _ (by omega) _ _ _]
  exact Below.heap_alloc w1 _ g hg
 have HW6 := Lib.hid hw2
 have hn2 := (hold _ (lt_of_block hn1)).trans hn1
 have HB2 : Hid (Below w.heap.size w w2) := Lib.hid (by
  rw [← hw2]
  exact below_setCells hb1'.size _ _ (hb1'.alloc hb1'.size _))
 have t0 := cell_of_row _ _ 0 _ _ _ hn2
 have t1 := cell_of_row _ _ 1 _ _ _ hn2
 simp only [List.getElem?_toArray, List.getElem?_cons_zero, List.getElem?_cons_succ] at t0 t1
 clear hb1 hb1' hz1' hold hil hidl hpc hw2 hn1 hn2 a0 a1
 by_cases hc : pc = 0
 rotate_left
 ·
  have z2 : ((pc : Int) != 0) = true := by simp; omega
  have HCI : Hid ((pc : Int) ≠ 0) := Lib.hid (by omega)
  clear hc
  go_wp2_with (first | (with_reducible refine wpList_store_mid rfl 30 (.tmp 4) (.tmp 16) rfl w1.heap.size 0 (bC idl) rfl rfl HTH.out HIB.out HOB.out ?_; rw [HW6.out]))
  go_ret2
  exact ⟨HB2.out, .inr ⟨fun h => HCI.out (by rw [← HPC.out, h.1]; rfl), _, HCI.out, rfl⟩⟩
 subst hc
 by_cases hk : k = 2
 rotate_left
 ·
  have z3 : (k != 2) = true := by simpa using hk
  have HND : Hid (ndF (k, s) = []) := Lib.hid (ndF_data hk)
  have HK := Lib.hid hk
  clear hk
  go_wp2_with (first | (with_reducible refine wpList_store_mid rfl 30 (.tmp 4) (.tmp 16) rfl w1.heap.size 0 (bC idl) rfl rfl HTH.out HIB.out HOB.out ?_; rw [HW6.out]))
  go_ret2
  refine ⟨HB2.out, .inl ⟨⟨HPC.out, fun h => absurd h HK.out⟩, none, 0, ?_⟩⟩
  rw [HND.out]
  exact ⟨rfl, World.ownsRow_nil _ _ _ _, by decide, by intro x hx; cases hx⟩
 subst hk
 have HRD := Lib.hid (tread_any s w2 (HT.out.below HB2.out))
 go_wp2_with (first | (with_reducible refine wpList_store_mid rfl 30 (.tmp 4) (.tmp 16) rfl w1.heap.size 0 (bC idl) rfl rfl HTH.out HIB.out HOB.out ?_; rw [HW6.out]))
 clear t0 t1
 refine HRD.out.mono ?_
 rintro e w3 ⟨⟨lm, na, nc, hro, rfl, hna, hno, hmz⟩ | ⟨c, hc, rfl, hno⟩, hb3⟩
 rotate_left
 ·
  have z2 : (c != 0) = true := by simpa using hc
  have HB3 := Lib.hid (HB2.out.trans (hb3.mono HB2.out.size))
  have HCI := Lib.hid hc
  have HNO := Lib.hid hno
  clear hc hb3 hno HRD
  go_wp2_with fail
  go_ret2
  exact ⟨HB3.out, .inr ⟨fun h => by obtain ⟨ms, hm⟩ := h.2 rfl; exact HNO.out ms hm, _, HCI.out, rfl⟩⟩
 have HB3 := Lib.hid (HB2.out.trans (hb3.mono HB2.out.size))
 have HRO := Lib.hid hro
 have HNA := Lib.hid hna
 have hlm64 : lm.length ≤ 64 := hro.2.1.1
 have hlm63 : (lm.length : Int) ≤ 64 := by omega
 clear hb3 hro hna hno hmz HRD
 go_wp2_with fail
 go_loopw [8, 35] (fun ov iv wr => ∃ (i : Nat) (D : List (List Nat)) (oa : Option Addr) (oc : Nat), i ≤ lm.length ∧ iv = .int .i64 (i : Int) ∧ ov = .slice oa D.length oc ∧ D.length ≤ 300 * i ∧ Hid (D = ddp (ptsOf (lm.take i))) ∧ Hid (wr.ownsRow w3.heap.size 30 8 (.slice oa D.length oc) D.length (D.flatMap idK)) ∧ Hid (Below w3.heap.size w3 wr)) (fun _ iv _ => lm.length - (intOf iv).toNat)
 case atStart => exact ⟨0, [], none, 0, Nat.zero_le _, rfl, rfl, Nat.le_refl _, Lib.hid rfl, Lib.hid (World.ownsRow_nil _ _ _ _), Lib.hid (Below.refl _ _)⟩
 case round =>
  obtain ⟨i, D, oa, oc, hi, rfl, rfl, hdl, HD, HO, HBR⟩ := hrel
  by_cases hlt : i < lm.length
  ·
   have m1 : (i : Int) < (lm.length : Int) := by omega
   obtain ⟨g, off, rfl, hg, hr⟩ := (HNA.out.1.below HBR.out) i hlt
   have htk : lm.take (i + 1) = lm.take i ++ [lm[i]] := List.take_succ_eq_append_getElem hlt
   have hok := HRO.out.2.1.2.1 _ (List.getElem_mem hlt)
   have hpa := HNA.out.2 _ (List.getElem_mem hlt)
   generalize lm[i] = m at *
   obtain ⟨nm, kd, md, tm, sz, ⟨pa, pq, ids⟩, lk⟩ := m
   have r0 := hr 0 _ rfl
   have r1 := hr 1 _ rfl
   have r2 := hr 2 _ rfl
   have r3 := hr 3 _ rfl
   have r4 := hr 4 _ rfl
   have r5 := hr 5 _ rfl
   have r6 := hr 6 _ rfl
   simp only [Nat.add_zero] at r0 r1 r2 r3 r4 r5 r6
   have hids : ids.length ≤ 300 := hok.2.2.2.1
   have hidi : (ids.length : Int) ≤ 300 := by omega
   have HTK := Lib.hid htk
   have HLT := Lib.hid hlt
   have HPA : Hid (SAt 8 idC w3 pa ids) := Lib.hid hpa
   have hrn := heap_alloc_new wr (.cells #[.string nm, .int .i64 kd, .int .i64 md, .int .i64 tm, .int .i64 sz, .slice pa ids.length pq, .string lk] 120)
   have hba := (Below.refl wr.heap.size wr).alloc (Nat.le_refl _) (.cells #[.string nm, .int .i64 kd, .int .i64 md, .int .i64 tm, .int .i64 sz, .slice pa ids.length pq, .string lk] 120)
   have HBN := Lib.hid (HBR.out.trans (hba.mono HBR.out.size))
   have HON := Lib.hid (own_belowK HO.out hba)
   have d5 := cell_of_row _ _ 5 _ _ _ hrn
   simp only [List.getElem?_toArray, List.getElem?_cons_zero, List.getElem?_cons_succ] at d5
   clear hr hg htk hok hpa hrn hba HO HBR hlt
   go_wp2_with fail
   generalize hw4 : wr.alloc (.cells #[.string nm, .int .i64 kd, .int .i64 md, .int .i64 tm, .int .i64 sz, .slice pa ids.length pq, .string lk] 120) = w4 at *
   clear hw4 d5 r0 r1 r2 r3 r4 r5 r6
   go_loopw [8, 42] (fun ov jv wr => ∃ (j : Nat) (E : List (List Nat)) (qa : Option Addr) (qc : Nat), j ≤ ids.length ∧ jv = .int .i64 (j : Int) ∧ ov = .slice qa E.length qc ∧ E.length ≤ 300 * i + j ∧ Hid (E = ddp (ptsOf (lm.take i) ++ (ids.take j).map idL)) ∧ Hid (wr.ownsRow w3.heap.size 30 8 (.slice qa E.length qc) E.length (E.flatMap idK)) ∧ Hid (Below w3.heap.size w3 wr)) (fun _ jv _ => ids.length - (intOf jv).toNat)
   case atStart => exact ⟨0, D, oa, oc, Nat.zero_le _, rfl, rfl, by omega, Lib.hid (by rw [HD.out]; simp), HON, HBN⟩
   case round =>
    obtain ⟨j, E, qa, qc, hj, rfl, rfl, hel, HE, HQ, HBQ⟩ := hrel
    by_cases hltj : j < ids.length
    ·
     have m2 : (j : Int) < (ids.length : Int) := by omega
     obtain ⟨g2, off2, rfl, hg2, hrr⟩ := (HPA.out.below HBQ.out) j hltj
     have htk2 : ids.take (j + 1) = ids.take j ++ [ids[j]] := List.take_succ_eq_append_getElem hltj
     generalize ids[j] = t at *
     obtain ⟨b0, b1, b2, b3, b4, b5, b6, b7⟩ := t
     have q0 := hrr 0 _ rfl
     have q1 := hrr 1 _ rfl
     have q2 := hrr 2 _ rfl
     have q3 := hrr 3 _ rfl
     have q4 := hrr 4 _ rfl
     have q5 := hrr 5 _ rfl
     have q6 := hrr 6 _ rfl
     have q7 := hrr 7 _ rfl
     simp only [Nat.add_zero, bV] at q0 q1 q2 q3 q4 q5 q6 q7
     have HTK2 := Lib.hid htk2
     have HLJ := Lib.hid hltj
     have hrn := heap_alloc_new wr (.cells #[.int .u8 (b0 : Int), .int .u8 (b1 : Int), .int .u8 (b2 : Int), .int .u8 (b3 : Int), .int .u8 (b4 : Int), .int .u8 (b5 : Int), .int .u8 (b6 : Int), .int .u8 (b7 : Int)] 30)
     have HRN := Lib.hid hrn
     have hba := (Below.refl wr.heap.size wr).alloc (Nat.le_refl _) (.cells #[.int .u8 (b0 : Int), .int .u8 (b1 : Int), .int .u8 (b2 : Int), .int .u8 (b3 : Int), .int .u8 (b4 : Int), .int .u8 (b5 : Int), .int .u8 (b6 : Int), .int .u8 (b7 : Int)] 30)
     have HBA := Lib.hid (HBQ.out.trans (hba.mono HBQ.out.size))
     have HOA := Lib.hid (own_belowK HQ.out hba)
     have HIE : Hid (IdsL E) := Lib.hid (by rw [HE.out]; exact ddp_ids2 _ _)
     have HEN : Hid (ddp (ptsOf (lm.take i) ++ (ids.take (j + 1)).map idL) = if idL (b0, b1, b2, b3, b4, b5, b6, b7) ∈ E then E else E ++ [idL (b0, b1, b2, b3, b4, b5, b6, b7)]) := Lib.hid (by
      rw [HTK2.out, List.map_append, ← List.append_assoc, HE.out]
      exact ddp_snoc _ _)
     have HCT := Lib.hid (containsId_any qa qc E (idL (b0, b1, b2, b3, b4, b5, b6, b7)) rfl HIE.out (wr.alloc (.cells #[.int .u8 (b0 : Int), .int .u8 (b1 : Int), .int .u8 (b2 : Int), .int .u8 (b3 : Int), .int .u8 (b4 : Int), .int .u8 (b5 : Int), .int .u8 (b6 : Int), .int .u8 (b7 : Int)] 30)) ((own_satI HIE.out HQ.out).below hba) (by omega))
     have p0 := cell_of_row _ _ 0 _ _ _ hrn
     have p1 := cell_of_row _ _ 1 _ _ _ hrn
     have p2 := cell_of_row _ _ 2 _ _ _ hrn
     have p3 := cell_of_row _ _ 3 _ _ _ hrn
     have p4 := cell_of_row _ _ 4 _ _ _ hrn
     have p5 := cell_of_row _ _ 5 _ _ _ hrn
     have p6 := cell_of_row _ _ 6 _ _ _ hrn
     have p7 := cell_of_row _ _ 7 _ _ _ hrn
     simp only [List.getElem?_toArray, List.getElem?_cons_zero, List.getElem?_cons_succ] at p0 p1 p2 p3 p4 p5 p6 p7
     clear hrr hg2 htk2 hrn hba hltj
     go_wp2_with fail
     refine HCT.out.mono ?_
     rintro e wB ⟨⟨t, rfl, ht⟩, hbB⟩
     have HBB := Lib.hid (HBA.out.trans (hbB.mono HBA.out.size))
     have HOB2 := Lib.hid (own_belowK HOA.out hbB)
     have hrb := (hbB.block _ (lt_of_block HRN.out)).trans HRN.out
     clear q0 q1 q2 q3 q4 q5 q6 q7 p0 p1 p2 p3 p4 p5 p6 p7
     have p0 := cell_of_row _ _ 0 _ _ _ hrb
     have p1 := cell_of_row _ _ 1 _ _ _ hrb
     have p2 := cell_of_row _ _ 2 _ _ _ hrb
     have p3 := cell_of_row _ _ 3 _ _ _ hrb
     have p4 := cell_of_row _ _ 4 _ _ _ hrb
     have p5 := cell_of_row _ _ 5 _ _ _ hrb
     have p6 := cell_of_row _ _ 6 _ _ _ hrb
     have p7 := cell_of_row _ _ 7 _ _ _ hrb
     simp only [List.getElem?_toArray, List.getElem?_cons_zero, List.getElem?_cons_succ] at p0 p1 p2 p3 p4 p5 p6 p7
     clear hbB hrb HCT HOA HBA
     cases t with
     | true =>
      have hin := ht.1 rfl
      have HE2 : Hid (E = ddp (ptsOf (lm.take i) ++ (ids.take (j + 1)).map idL)) := Lib.hid (by rw [HEN.out, if_pos hin])
      clear ht hin
      go_wp2_with fail
      go_roundw
      case rel => exact ⟨j + 1, E, qa, qc, HLJ.out, by go_num, rfl, by omega, HE2, HOB2, HBB⟩
      case measure => simp [intOf]; have := HLJ.out; omega
     | false =>
      have hin : idL (b0, b1, b2, b3, b4, b5, b6, b7) ∉ E := fun h => by have := ht.2 h; cases this
      have HE2 : Hid (E ++ [idL (b0, b1, b2, b3, b4, b5, b6, b7)] = ddp (ptsOf (lm.take i) ++ (ids.take (j + 1)).map idL)) := Lib.hid (by rw [HEN.out, if_neg hin])
      have D1 := Lib.hid (cells_new_at wB wB.heap.size rfl #[.int .u8 (b0 : Int), .int .u8 (b1 : Int), .int .u8 (b2 : Int), .int .u8 (b3 : Int), .int .u8 (b4 : Int), .int .u8 (b5 : Int), .int .u8 (b6 : Int), .int .u8 (b7 : Int)] 30 (idC (b0, b1, b2, b3, b4, b5, b6, b7)) rfl)
      have D2 := Lib.hid (idC_one (b0, b1, b2, b3, b4, b5, b6, b7))
      have D3 : Hid (E.length + 1 ≤ maxLen) := Lib.hid (by unfold maxLen; omega)
      have D4 : Hid ((E.length + 1) * 8 ≤ 140737488355328) := Lib.hid (by omega)
      have D5 : Hid (w3.heap.size ≤ (wB.alloc (.cells #[.int .u8 (b0 : Int), .int .u8 (b1 : Int), .int .u8 (b2 : Int), .int .u8 (b3 : Int), .int .u8 (b4 : Int), .int .u8 (b5 : Int), .int .u8 (b6 : Int), .int .u8 (b7 : Int)] 30)).heap.size) := Lib.hid (by have := HBB.out.size; simp; omega)
      clear ht hin
      go_wp2_with (at_builtin; refine wpList_append_own _ rfl _ _ 57 rfl w3.heap.size 30 ii0 (.agg (idC (0, 0, 0, 0, 0, 0, 0, 0)).toArray) 8 8 Tryz.underlying57 hi0 hz0 hz1 hz2 rfl (by decide) _ _ _ rfl (HOB2.out.alloc _) ⟨wB.heap.size, 0, none⟩ 1 1 (idC (b0, b1, b2, b3, b4, b5, b6, b7)) rfl rfl D1.out D2.out D3.out D4.out D5.out ?_)
      intro v' wC hown' hgrow _
      have BW := Lib.hid (below_own (HBB.out.alloc HBB.out.size (.cells #[.int .u8 (b0 : Int), .int .u8 (b1 : Int), .int .u8 (b2 : Int), .int .u8 (b3 : Int), .int .u8 (b4 : Int), .int .u8 (b5 : Int), .int .u8 (b6 : Int), .int .u8 (b7 : Int)] 30)) hgrow D5.out (HOB2.out.alloc _) (Nat.le_refl _))
      obtain ⟨oa2, oc2, rfl⟩ := own_formK hown'
      have OW : Hid (wC.ownsRow w3.heap.size 30 8 (.slice oa2 (E ++ [idL (b0, b1, b2, b3, b4, b5, b6, b7)]).length oc2) (E ++ [idL (b0, b1, b2, b3, b4, b5, b6, b7)]).length ((E ++ [idL (b0, b1, b2, b3, b4, b5, b6, b7)]).flatMap idK)) := Lib.hid (by
       rw [List.length_append, List.flatMap_append]
       simpa [idK, idC] using hown')
      have HEL : Hid ((E ++ [idL (b0, b1, b2, b3, b4, b5, b6, b7)]).length = E.length + 1) := Lib.hid (by rw [List.length_append]; rfl)
      clear hown' hgrow p0 p1 p2 p3 p4 p5 p6 p7
      go_wp2_with fail
      go_roundw
      case rel => exact ⟨j + 1, _, oa2, oc2, HLJ.out, by go_num, by rw [HEL.out], by rw [HEL.out]; omega, HE2, OW, BW⟩
      case measure => simp [intOf]; have := HLJ.out; omega
    ·
     have m2 : ¬ (j : Int) < (ids.length : Int) := by omega
     obtain rfl : j = ids.length := by omega
     have HE2 : Hid (E = ddp (ptsOf (lm.take (i + 1)))) := Lib.hid (by
      rw [HE.out, HTK.out, ptsOf_snocN, List.take_length]
      rfl)
     go_wp2_with fail
     go_roundw
     case rel => exact ⟨i + 1, E, qa, qc, HLT.out, by go_num, rfl, by omega, HE2, HQ, HBQ⟩
     case measure => simp [intOf]; have := HLT.out; omega
  ·
   have m1 : ¬ (i : Int) < (lm.length : Int) := by omega
   obtain rfl : i = lm.length := by omega
   have HD2 : Hid (ndF (2, s) = D) := Lib.hid (by rw [ndF_of HRO.out, HD.out, List.take_length])
   have HFIN := Lib.hid (HB3.out.trans (HBR.out.mono HB3.out.size))
   have HI : Hid (IdsL D) := Lib.hid (by rw [HD.out]; exact ddp_ids _)
   have HOF := Lib.hid (own_baseN HO.out HB3.out.size)
   go_wp2_with fail
   go_ret2
   refine ⟨HFIN.out, .inl ⟨⟨HPC.out, fun _ => ⟨lm, HRO.out⟩⟩, oa, oc, ?_⟩⟩
   rw [HD2.out]
   exact ⟨rfl, HOF.out, by omega, HI.out⟩
end Go.Proofs.YtbfoonfbhebhfaaGreatDoor
