/- Joined: FetchC. -/
import Derived.Test.YtbfoonfbhebhfaaGreatDoorKGoS
import Derived.Test.YtbfoonfbhebhfaaGreatDoorKGoE
namespace Go.Proofs.YtbfoonfbhebhfaaGreatDoor
open Go.RowKit Plain Go.Maps Go.ChangeMaps
set_option linter.unusedVariables false
set_option linter.unusedSimpArgs false
def HasAll (es : List (List Nat × Bl)) (b : Bl) : Prop := ∀ n ∈ ndF b, (ilk es n).isSome = true
def CmpEnd (es : List (List Nat × Bl)) (b : Bl) (w0 : World) (e : Ending) (w : World) : Prop := Below w0.heap.size w0 w ∧ ∃ c : Int, e = .returned (.int .i64 c) ∧
 ((NdOk b ∧ HasAll es b ∧ c = 0) ∨ (NdOk b ∧ ¬ HasAll es b ∧ c = 9) ∨ (¬ NdOk b ∧ c ≠ 0))
set_option maxRecDepth 100000 in
set_option maxHeartbeats 2000000 in
theorem complete_any {es : List (List Nat × Bl)} (hes : ∀ e ∈ es, e.1.length = 8) {H : Nat} (k : Int) (s : ByteArray) (w : World) (hH : w.heap[H]? = some (imO blV es)) (hT : Tabs w) :
  Calls Tryz.prog 75 #[.map (some H), .agg #[.int .i64 k, .string s]] w (CmpEnd es (k, s) w) := by
 have hb0 := (Below.refl w.heap.size w).alloc (Nat.le_refl _) (.cells #[.int .i64 k, .string s] 37)
 have hr0 := heap_alloc_new w (.cells #[.int .i64 k, .string s] 37)
 have HB0 := Lib.hid hb0
 have HES := Lib.hid hes
 have HH := Lib.hid hH
 have HND := Lib.hid (needs_any k s (w.alloc (.cells #[.int .i64 k, .string s] 37)) (hT.below hb0))
 have a0 := cell_of_row _ _ 0 _ _ _ hr0
 have a1 := cell_of_row _ _ 1 _ _ _ hr0
 simp only [List.getElem?_toArray, List.getElem?_cons_zero, List.getElem?_cons_succ] at a0 a1
 clear hb0 hr0 hT hes hH
 go_enter Tryz.func75, Tryz.ntmps75
 go_wp2_with fail
 refine HND.out.mono ?_
 rintro e w1 ⟨hb1, ⟨hok, na, nc, rfl, hown, hn20, hids⟩ | ⟨hno, c, hc, rfl⟩⟩
 rotate_left
 ·
  have HB1 := Lib.hid (HB0.out.trans (hb1.mono HB0.out.size))
  have c1 : (c != 0) = true := by simpa using hc
  have HC := Lib.hid hc
  have HNO := Lib.hid hno
  clear hb1 hc hno HND a0 a1
  go_wp2_with fail
  go_ret
  exact ⟨HB1.out, c, rfl, .inr (.inr ⟨HNO.out, HC.out⟩)⟩
 have HB1 := Lib.hid (HB0.out.trans (hb1.mono HB0.out.size))
 have HOK := Lib.hid hok
 obtain ⟨nd, hnd⟩ : ∃ nd, ndF (k, s) = nd := ⟨_, rfl⟩
 rw [hnd] at hown hn20 hids ⊢
 have HNQ := Lib.hid hnd
 have HSD := Lib.hid (own_satI hids hown)
 have HIDS := Lib.hid hids
 have hn20i : (nd.length : Int) ≤ 20000 := by omega
 clear hb1 hok hown hn20 hids hnd HND a0 a1
 go_wp2_with fail
 go_loopw [21] (fun jv wr => ∃ j : Nat, j ≤ nd.length ∧ jv = .int .i64 (j : Int) ∧ Hid (∀ n ∈ nd.take j, (ilk es n).isSome = true) ∧ Hid (Below w1.heap.size w1 wr)) (fun jv _ => nd.length - (intOf jv).toNat)
 case atStart => exact ⟨0, Nat.zero_le _, rfl, Lib.hid (fun n h => by cases h), Lib.hid (Below.refl _ _)⟩
 case round =>
  obtain ⟨j, hj, rfl, HAL, HBR⟩ := hrel
  have HBW : Hid (Below w.heap.size w wr) := Lib.hid (HB1.out.trans (HBR.out.mono HB1.out.size))
  by_cases hlt : j < nd.length
  ·
   have m2 : (j : Int) < (nd.length : Int) := by omega
   obtain ⟨g2, off2, rfl, hg2, hrr⟩ := (HSD.out.below HBR.out) j hlt
   have htk2 : nd.take (j + 1) = nd.take j ++ [nd[j]] := List.take_succ_eq_append_getElem hlt
   have hmem := List.getElem_mem hlt
   have h8 := HIDS.out _ (List.getElem_mem hlt)
   generalize nd[j] = n at *
   obtain ⟨v0, v1, v2, v3, v4, v5, v6, v7, rfl⟩ := list8W h8
   have q0 := hrr 0 _ rfl
   have q1 := hrr 1 _ rfl
   have q2 := hrr 2 _ rfl
   have q3 := hrr 3 _ rfl
   have q4 := hrr 4 _ rfl
   have q5 := hrr 5 _ rfl
   have q6 := hrr 6 _ rfl
   have q7 := hrr 7 _ rfl
   simp only [Nat.add_zero, bV] at q0 q1 q2 q3 q4 q5 q6 q7
   have HTK2 := Lib.hid htk2
   have HLJ := Lib.hid hlt
   have HMEM := Lib.hid hmem
   have hrn := heap_alloc_new wr (.cells #[.int .u8 (v0 : Int), .int .u8 (v1 : Int), .int .u8 (v2 : Int), .int .u8 (v3 : Int), .int .u8 (v4 : Int), .int .u8 (v5 : Int), .int .u8 (v6 : Int), .int .u8 (v7 : Int)] 30)
   have hba := (Below.refl wr.heap.size wr).alloc (Nat.le_refl _) (.cells #[.int .u8 (v0 : Int), .int .u8 (v1 : Int), .int .u8 (v2 : Int), .int .u8 (v3 : Int), .int .u8 (v4 : Int), .int .u8 (v5 : Int), .int .u8 (v6 : Int), .int .u8 (v7 : Int)] 30)
   have HBA := Lib.hid (HBR.out.trans (hba.mono HBR.out.size))
   have HWA := Lib.hid (HBW.out.trans (hba.mono HBW.out.size))
   have hmj := (HWA.out.block _ (lt_of_blockW HH.out)).trans HH.out
   have hl2 := look_id2 blV (w := wr.alloc (.cells #[.int .u8 (v0 : Int), .int .u8 (v1 : Int), .int .u8 (v2 : Int), .int .u8 (v3 : Int), .int .u8 (v4 : Int), .int .u8 (v5 : Int), .int .u8 (v6 : Int), .int .u8 (v7 : Int)] 30)) (b := H) (mt := 97) Tryz.underlying97 (zero_blW _) hmj [v0, v1, v2, v3, v4, v5, v6, v7] rfl HES.out
   have p0 := cell_of_row _ _ 0 _ _ _ hrn
   have p1 := cell_of_row _ _ 1 _ _ _ hrn
   have p2 := cell_of_row _ _ 2 _ _ _ hrn
   have p3 := cell_of_row _ _ 3 _ _ _ hrn
   have p4 := cell_of_row _ _ 4 _ _ _ hrn
   have p5 := cell_of_row _ _ 5 _ _ _ hrn
   have p6 := cell_of_row _ _ 6 _ _ _ hrn
   have p7 := cell_of_row _ _ 7 _ _ _ hrn
   simp only [List.getElem?_toArray, List.getElem?_cons_zero, List.getElem?_cons_succ] at p0 p1 p2 p3 p4 p5 p6 p7
   cases hq : ilk es [v0, v1, v2, v3, v4, v5, v6, v7] with
   | some ob =>
    obtain ⟨k2, s2⟩ := ob
    rw [hq] at hl2
    replace hl2 : (Instr.lookup 97 (.map (some H)) (.agg #[.int .u8 (v0 : Int), .int .u8 (v1 : Int), .int .u8 (v2 : Int), .int .u8 (v3 : Int), .int .u8 (v4 : Int), .int .u8 (v5 : Int), .int .u8 (v6 : Int), .int .u8 (v7 : Int)]) true).run Tryz.prog (wr.alloc (.cells #[.int .u8 (v0 : Int), .int .u8 (v1 : Int), .int .u8 (v2 : Int), .int .u8 (v3 : Int), .int .u8 (v4 : Int), .int .u8 (v5 : Int), .int .u8 (v6 : Int), .int .u8 (v7 : Int)] 30)) = .ok (.tuple #[.agg #[.int .i64 k2, .string s2], .bool true]) (wr.alloc (.cells #[.int .u8 (v0 : Int), .int .u8 (v1 : Int), .int .u8 (v2 : Int), .int .u8 (v3 : Int), .int .u8 (v4 : Int), .int .u8 (v5 : Int), .int .u8 (v6 : Int), .int .u8 (v7 : Int)] 30)) := hl2
    have HAL2 : Hid (∀ n ∈ nd.take (j + 1), (ilk es n).isSome = true) := Lib.hid (fun n h => by
     rw [HTK2.out] at h
     rcases List.mem_append.1 h with h | h
     ·
      exact HAL.out n h
     ·
      rw [List.mem_singleton] at h; rw [h, hq]; rfl)
    have HB2 := Lib.hid (HBA.out.alloc HBA.out.size (.cells #[.int .i64 k2, .string s2] 37))
    clear hrr hg2 htk2 h8 hrn hba hmj hq hmem hlt
    go_wp2_with fail
    go_roundw
    case rel => exact ⟨j + 1, HLJ.out, by go_num, HAL2, HB2⟩
    case measure => simp [intOf]; have := HLJ.out; omega
   | none =>
    rw [hq] at hl2
    replace hl2 : (Instr.lookup 97 (.map (some H)) (.agg #[.int .u8 (v0 : Int), .int .u8 (v1 : Int), .int .u8 (v2 : Int), .int .u8 (v3 : Int), .int .u8 (v4 : Int), .int .u8 (v5 : Int), .int .u8 (v6 : Int), .int .u8 (v7 : Int)]) true).run Tryz.prog (wr.alloc (.cells #[.int .u8 (v0 : Int), .int .u8 (v1 : Int), .int .u8 (v2 : Int), .int .u8 (v3 : Int), .int .u8 (v4 : Int), .int .u8 (v5 : Int), .int .u8 (v6 : Int), .int .u8 (v7 : Int)] 30)) = .ok (.tuple #[.agg #[.int .i64 0, .string ⟨#[]⟩], .bool false]) (wr.alloc (.cells #[.int .u8 (v0 : Int), .int .u8 (v1 : Int), .int .u8 (v2 : Int), .int .u8 (v3 : Int), .int .u8 (v4 : Int), .int .u8 (v5 : Int), .int .u8 (v6 : Int), .int .u8 (v7 : Int)] 30)) := hl2
    have HNA : Hid (¬ HasAll es (k, s)) := Lib.hid (fun h => by
     have := h [v0, v1, v2, v3, v4, v5, v6, v7] (by rw [HNQ.out]; exact HMEM.out)
     rw [hq] at this
     cases this)
    have HB2 := Lib.hid (HWA.out.alloc HWA.out.size (.cells #[.int .i64 0, .string ⟨#[]⟩] 37))
    clear hrr hg2 htk2 h8 hrn hba hmj hq hmem hlt
    go_wp2_with fail
    go_ret
    exact ⟨HB2.out, 9, rfl, .inr (.inl ⟨HOK.out, HNA.out, rfl⟩)⟩
  ·
   have m2 : ¬ (j : Int) < (nd.length : Int) := by omega
   obtain rfl : j = nd.length := by omega
   have HHA : Hid (HasAll es (k, s)) := Lib.hid (fun n h => HAL.out n (by rw [List.take_length]; rw [HNQ.out] at h; exact h))
   go_wp2_with fail
   go_ret
   exact ⟨HBW.out, 0, rfl, .inl ⟨HOK.out, HHA.out, rfl⟩⟩
def ClosedL (l : List Bl) : Prop := ∀ b ∈ l, NdOk b ∧ ∀ n ∈ ndF b, ∃ d ∈ l, pidL d = n
theorem HpM.has {l : List Bl} {es : List (List Nat × Bl)} (h : HpM l es) (n : List Nat) : (ilk es n).isSome = true ↔ ∃ d ∈ l, pidL d = n := by
 rw [h.2]
 constructor
 ·
  intro hs
  cases hq : lkL l n with
  | none => rw [hq] at hs; cases hs
  | some d => obtain ⟨h1, h2⟩ := lkL_some hq; exact ⟨d, h1, h2⟩
 ·
  rintro ⟨d, hd, e⟩
  cases hq : lkL l n with
  | some d => rfl
  | none =>
   have := List.find?_eq_none.1 hq d hd
   simp [e] at this
def ClosEnd (l : List Bl) (w0 : World) (e : Ending) (w : World) : Prop := Below w0.heap.size w0 w ∧ ∃ c : Int, e = .returned (.int .i64 c) ∧ (c = 0 ↔ l.length ≤ 1000 ∧ Cons l ∧ ClosedL l) ∧ (l.length ≤ 1000 → Cons l → (∀ b ∈ l, NdOk b) → c = 0 ∨ c = 9)
set_option maxRecDepth 100000 in
set_option maxHeartbeats 2000000 in
theorem closed_any (a : Option Addr) (cap : Nat) (l : List Bl) (w : World) (h : SAt 2 blC w a l) (hl : l.length ≤ 9223372036854775807) (hT : Tabs w) :
  Calls Tryz.prog 48 #[.slice a l.length cap] w (ClosEnd l w) := by
 have HS := Lib.hid h
 have HT := Lib.hid hT
 have HHP := Lib.hid (heap_any a cap l w h hl)
 clear h hT
 go_enter Tryz.func48, Tryz.ntmps48
 go_wp2_with fail
 refine HHP.out.mono ?_
 rintro e w1 ⟨hb1, ⟨es, H, hes, hcons, hle, hHw, hmap, rfl⟩ | ⟨hbig, rfl⟩ | ⟨hle, hnc, c, hc, rfl⟩⟩
 rotate_left
 ·
  have HB1 := Lib.hid hb1
  have HBG := Lib.hid hbig
  clear hb1 hbig HHP
  go_wp2_with fail
  go_ret
  exact ⟨HB1.out, 2, rfl, ⟨fun h => (by cases h), fun h => absurd h.1 (by have := HBG.out; omega)⟩, fun h => absurd h (by have := HBG.out; omega)⟩
 ·
  have HB1 := Lib.hid hb1
  have c1 : (c != 0) = true := by simpa using hc
  have HC := Lib.hid hc
  have HNC := Lib.hid hnc
  clear hb1 hc hnc HHP hle
  go_wp2_with fail
  go_ret
  exact ⟨HB1.out, c, rfl, ⟨fun h => absurd h HC.out, fun h => absurd h.2.1 HNC.out⟩, fun _ h => absurd h HNC.out⟩
 have HB1 := Lib.hid hb1
 have HES := Lib.hid hes
 have HCN := Lib.hid hcons
 have HLE := Lib.hid hle
 have HMP := Lib.hid hmap
 have hle1 : (l.length : Int) ≤ 1000 := by omega
 clear hb1 hes hcons hle hHw hmap HHP
 go_wp2_with fail
 go_loopw [18] (fun iv wr => ∃ i : Nat, i ≤ l.length ∧ iv = .int .i64 (i : Int) ∧ Hid (∀ b ∈ l.take i, NdOk b ∧ HasAll es b) ∧ Hid (Below w1.heap.size w1 wr)) (fun iv _ => l.length - (intOf iv).toNat)
 case atStart => exact ⟨0, Nat.zero_le _, rfl, Lib.hid (fun n h => by cases h), Lib.hid (Below.refl _ _)⟩
 case round =>
  obtain ⟨i, hi, rfl, HAL, HBR⟩ := hrel
  have HBW : Hid (Below w.heap.size w wr) := Lib.hid (HB1.out.trans (HBR.out.mono HB1.out.size))
  by_cases hlt : i < l.length
  ·
   have m1 : (i : Int) < (l.length : Int) := by omega
   obtain ⟨g, off, rfl, hg, hr⟩ := (HS.out.below HBW.out) i hlt
   have htk : l.take (i + 1) = l.take i ++ [l[i]] := List.take_succ_eq_append_getElem hlt
   have hmem := List.getElem_mem hlt
   generalize l[i] = bl at *
   obtain ⟨k, s⟩ := bl
   have r0 : wr.cell? ⟨g, off + i * 2, none⟩ = some (.int .i64 k) := hr 0 _ rfl
   have r1 : wr.cell? ⟨g, off + i * 2 + 1, none⟩ = some (.string s) := hr 1 _ rfl
   have hna := heap_alloc_new wr (.cells #[.int .i64 k, .string s] 37)
   have hba := (Below.refl wr.heap.size wr).alloc (Nat.le_refl _) (.cells #[.int .i64 k, .string s] 37)
   have HBA := Lib.hid (HBR.out.trans (hba.mono HBR.out.size))
   have a0 := cell_of_row _ _ 0 _ _ _ hna
   have a1 := cell_of_row _ _ 1 _ _ _ hna
   simp only [List.getElem?_toArray, List.getElem?_cons_succ, List.getElem?_cons_zero] at a0 a1
   have HCM := Lib.hid (complete_any HES.out.1 (H := H) k s (wr.alloc (.cells #[.int .i64 k, .string s] 37)) ((HBA.out.block _ (lt_of_blockW HMP.out)).trans HMP.out) (HT.out.below (HB1.out.trans (HBA.out.mono HB1.out.size))))
   have HTK := Lib.hid htk
   have HLT := Lib.hid hlt
   have HMEM := Lib.hid hmem
   clear hr hg hna hba htk hlt hmem
   go_wp2_with fail
   refine HCM.out.mono ?_
   rintro e w5 ⟨hb5, c, rfl, hcc⟩
   have HB5 := Lib.hid (HBA.out.trans (hb5.mono HBA.out.size))
   have HCC := Lib.hid hcc
   clear hb5 hcc HCM a0 a1 r0 r1
   by_cases hc0 : c = 0
   ·
    have HAL2 : Hid (∀ b ∈ l.take (i + 1), NdOk b ∧ HasAll es b) := Lib.hid (fun b h => by
     rw [HTK.out] at h
     rcases List.mem_append.1 h with h | h
     ·
      exact HAL.out b h
     ·
      rw [List.mem_singleton] at h
      subst h
      rcases HCC.out with ⟨h1, h2, _⟩ | ⟨_, _, h3⟩ | ⟨_, h3⟩
      ·
       exact ⟨h1, h2⟩
      ·
       rw [hc0] at h3; cases h3
      ·
       exact absurd hc0 h3)
    subst hc0
    go_wp2_with fail
    go_roundw
    case rel => exact ⟨i + 1, HLT.out, by go_num, HAL2, HB5⟩
    case measure => simp [intOf]; have := HLT.out; omega
   ·
    have c1 : (c != 0) = true := by simpa using hc0
    have HC0 := Lib.hid hc0
    have HFIN := Lib.hid (HB1.out.trans (HB5.out.mono HB1.out.size))
    clear hc0
    go_wp2_with fail
    go_ret
    refine ⟨HFIN.out, c, rfl, ⟨fun h => absurd h HC0.out, fun h => ?_⟩, fun _ _ hall => ?_⟩
    ·
     exfalso
     obtain ⟨h1, h2⟩ := h.2.2 _ HMEM.out
     have h3 : HasAll es (k, s) := fun n hn => (HES.out.has n).2 (h2 n hn)
     rcases HCC.out with ⟨_, _, h4⟩ | ⟨_, h4, _⟩ | ⟨h4, _⟩
     ·
      exact HC0.out h4
     ·
      exact h4 h3
     ·
      exact h4 h1
    ·
     rcases HCC.out with ⟨_, _, h4⟩ | ⟨_, _, h4⟩ | ⟨h4, _⟩
     ·
      exact .inl h4
     ·
      exact .inr h4
     ·
      exact absurd (hall _ HMEM.out) h4
  ·
   have m1 : ¬ (i : Int) < (l.length : Int) := by omega
   obtain rfl : i = l.length := by omega
   have hal := HAL.out
   rw [List.take_length] at hal
   have HCL : Hid (ClosedL l) := Lib.hid (fun b hb => ⟨(hal b hb).1, fun n hn => (HES.out.has n).1 ((hal b hb).2 n hn)⟩)
   clear hal
   go_wp2_with fail
   go_ret
   exact ⟨HBW.out, 0, rfl, ⟨fun _ => ⟨HLE.out, HCN.out, HCL.out⟩, fun _ => rfl⟩, fun _ _ _ => .inl rfl⟩
end Go.Proofs.YtbfoonfbhebhfaaGreatDoor
