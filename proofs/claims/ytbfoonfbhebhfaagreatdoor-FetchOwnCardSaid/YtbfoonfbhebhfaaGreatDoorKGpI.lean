/- Joined: FetchS, Fetched. -/
import Derived.Test.YtbfoonfbhebhfaaGreatDoorKGpF
import Derived.Test.YtbfoonfbhebhfaaGreatDoorKGpC
import Derived.Test.YtbfoonfbhebhfaaGreatDoorKGoF
import Derived.Test.YtbfoonfbhebhfaaGreatDoorKGoI
import Derived.Test.YtbfoonfbhebhfaaGreatDoorKGoJ
import Derived.Test.YtbfoonfbhebhfaaGreatDoorKGpH
namespace Go.Proofs.YtbfoonfbhebhfaaGreatDoor
open Go.RowKit Plain Go.Maps
set_option linter.unusedVariables false
set_option linter.unusedSimpArgs false
def swO : List Bl := [dB pA, dB pB, ((2 : Int), t1), ((2 : Int), t2)]
theorem rok_1 : ROk t1 [mF] := by
 refine rOk_of wok_F (by rw [strN_t1]; exact tx_F) (by rw [size_strN, strN_t1, len_t1]; decide) (mz_of wok_F (fun m hm p hp => ?_) (fun m hm => ?_))
 ·
  rw [List.mem_singleton] at hm
  subst hm
  obtain ⟨s, _, rfl⟩ := List.mem_map.1 (show p ∈ [pA, pA, pB].map fun s => idB (dB s) from hp)
  exact ⟨_, rfl⟩
 ·
  rw [List.mem_singleton] at hm
  subst hm
  exact (by decide : (-9223372036854775808 : Int) ≤ 0 ∧ (0 : Int) ≤ 9223372036854775807)
theorem rok_2 : ROk t2 [mD] := by
 refine rOk_of wok_D (by rw [strN_t2]; exact tx_D) (by rw [size_strN, strN_t2, len_t2]; decide) (mz_of wok_D (fun m hm p hp => ?_) (fun m hm => ?_))
 ·
  rw [List.mem_singleton] at hm
  subst hm
  have : p ∈ [idB (2, t1)] := hp
  rw [List.mem_singleton] at this
  exact ⟨_, this⟩
 ·
  rw [List.mem_singleton] at hm
  subst hm
  exact (by decide : (-9223372036854775808 : Int) ≤ 0 ∧ (0 : Int) ≤ 9223372036854775807)
theorem ids_ne : pidL (dB pA) ≠ pidL (dB pB) ∧ pidL (dB pA) ≠ pidL (2, t1) ∧ pidL (dB pA) ≠ pidL (2, t2) ∧ pidL (dB pB) ≠ pidL (2, t1) ∧ pidL (dB pB) ≠ pidL (2, t2) ∧ pidL (2, t1) ≠ pidL (2, t2) := by
 have h := sw_ids
 simp only [List.map_cons, List.map_nil, List.nodup_cons, List.mem_cons, List.not_mem_nil, or_false, not_or] at h
 exact ⟨h.1.1, h.1.2.1, h.1.2.2, h.2.1.1, h.2.1.2, h.2.2.1⟩
theorem ddp_two {a b : List Nat} (h : a ≠ b) : ddp [a, a, b] = [a, b] := by
 have h2 : ¬ b = a := fun e => h e.symm
 simp [ddp, h2]
theorem ndF_1 : ndF (2, t1) = [pidL (dB pA), pidL (dB pB)] := by
 rw [ndF_of rok_1]
 have : ptsOf [mF] = [pidL (dB pA), pidL (dB pA), pidL (dB pB)] := by
  rw [ptsOf_nd, List.map_cons, List.map_nil, nd_F]
  rfl
 rw [this, ddp_two ids_ne.1]
theorem ndF_2 : ndF (2, t2) = [pidL (2, t1)] := by
 rw [ndF_of rok_2]
 have : ptsOf [mD] = [pidL (2, t1)] := by
  rw [ptsOf_nd, List.map_cons, List.map_nil, nd_D]
  rfl
 rw [this]
 rfl
theorem ndF_A (s : ByteArray) : ndF (dB s) = [] := ndF_data (by show (1 : Int) ≠ 2; decide)
theorem ndok_A : NdOk (dB pA) := ⟨pc_1, fun h => absurd h (by show (1 : Int) ≠ 2; decide)⟩
theorem ndok_B : NdOk (dB pB) := ⟨pc_2, fun h => absurd h (by show (1 : Int) ≠ 2; decide)⟩
theorem ndok_1 : NdOk (2, t1) := ⟨pc_3, fun _ => ⟨_, rok_1⟩⟩
theorem ndok_2 : NdOk (2, t2) := ⟨pc_4, fun _ => ⟨_, rok_2⟩⟩
theorem swO_cons : Cons swO := sw_planted.ids.cons
theorem swO_nd : ∀ b ∈ swO, NdOk b := by
 intro b hb
 unfold swO at hb
 simp only [List.mem_cons, List.not_mem_nil, or_false] at hb
 rcases hb with rfl | rfl | rfl | rfl
 ·
  exact ndok_A
 ·
  exact ndok_B
 ·
  exact ndok_1
 ·
  exact ndok_2
theorem lk_sw {b : Bl} (h : b ∈ swO) : lkL swO (pidL b) = some b := swO_cons.lk h
theorem visit_data {n : Nat} {s : ByteArray} (h : dB s ∈ swO) (hn : NdOk (dB s)) {seen : List (List Nat)} {out : List Bl} (hs : pidL (dB s) ∉ seen) : visitF (lkL swO) n (pidL (dB s)) (seen, out) = some (seen ++ [pidL (dB s)], out ++ [dB s]) := by
 have key : ∀ f, stepF (lkL swO) f (pidL (dB s)) (seen, out) = some (seen ++ [pidL (dB s)], out ++ [dB s]) := fun f => stepF_ok (st' := (seen ++ [pidL (dB s)], out)) hs (lk_sw h) hn (by rw [ndF_A]; rfl)
 cases n <;> exact key _
theorem mem_A : dB pA ∈ swO := by simp [swO]
theorem mem_B : dB pB ∈ swO := by simp [swO]
theorem mem_1 : ((2 : Int), t1) ∈ swO := by simp [swO]
theorem mem_2 : ((2 : Int), t2) ∈ swO := by simp [swO]
theorem visit_1 (n : Nat) : visitF (lkL swO) (n + 1) (pidL (2, t1)) ([pidL (2, t2)], []) = some ([pidL (2, t2), pidL (2, t1), pidL (dB pA), pidL (dB pB)], [dB pA, dB pB, ((2 : Int), t1)]) := by
 obtain ⟨h1, h2, h3, h4, h5, h6⟩ := ids_ne
 refine stepF_ok (st' := ([pidL (2, t2), pidL (2, t1), pidL (dB pA), pidL (dB pB)], [dB pA, dB pB])) ?_ (lk_sw mem_1) ndok_1 ?_
 ·
  simpa using h6
 ·
  rw [ndF_1]
  have e1 := visit_data (n := n) mem_A ndok_A (seen := [pidL (2, t2), pidL (2, t1)]) (out := []) (by simp only [List.mem_cons, List.not_mem_nil, or_false, not_or]; exact ⟨h3, h2⟩)
  have e2 := visit_data (n := n) mem_B ndok_B (seen := [pidL (2, t2), pidL (2, t1), pidL (dB pA)]) (out := [dB pA]) (by simp only [List.mem_cons, List.not_mem_nil, or_false, not_or]; exact ⟨h5, h4, fun e => h1 e.symm⟩)
  show runL (visitF (lkL swO) n) [pidL (dB pA), pidL (dB pB)] ([pidL (2, t2), pidL (2, t1)], []) = _
  rw [runL, e1]
  show runL (visitF (lkL swO) n) [pidL (dB pB)] ([pidL (2, t2), pidL (2, t1), pidL (dB pA)], [dB pA]) = _
  rw [runL, e2]
  rfl
theorem visit_2 (n : Nat) : ∃ seen, visitF (lkL swO) (n + 2) (pidL (2, t2)) ([], []) = some (seen, swO) := by
 refine ⟨_, stepF_ok (st' := ([pidL (2, t2), pidL (2, t1), pidL (dB pA), pidL (dB pB)], [dB pA, dB pB, ((2 : Int), t1)])) (by simp) (lk_sw mem_2) ndok_2 ?_⟩
 rw [ndF_2]
 show runL (visitF (lkL swO) (n + 1)) [pidL (2, t1)] ([pidL (2, t2)], []) = _
 rw [runL, visit_1]
 rfl
theorem sw_plan : ∃ seen, planF swO [] [pidL (2, t2)] = some (seen, swO) := by
 obtain ⟨seen, h⟩ := visit_2 998
 refine ⟨seen, ?_⟩
 unfold planF
 rw [runL]
 rw [show (ddp [] : List (List Nat)) = [] from rfl]
 have h2 : visitF (lkL swO) 1000 (pidL (2, t2)) ([], []) = some (seen, swO) := h
 rw [h2]
 rfl
theorem sw_closed : ClosedL swO := by
 intro b hb
 refine ⟨swO_nd b hb, fun n hn => ?_⟩
 unfold swO at hb
 simp only [List.mem_cons, List.not_mem_nil, or_false] at hb
 rcases hb with rfl | rfl | rfl | rfl
 ·
  rw [ndF_A] at hn; cases hn
 ·
  rw [ndF_A] at hn; cases hn
 ·
  rw [ndF_1] at hn
  simp only [List.mem_cons, List.not_mem_nil, or_false] at hn
  rcases hn with rfl | rfl
  ·
   exact ⟨_, mem_A, rfl⟩
  ·
   exact ⟨_, mem_B, rfl⟩
 ·
  rw [ndF_2] at hn
  simp only [List.mem_cons, List.not_mem_nil, or_false] at hn
  subst hn
  exact ⟨_, mem_1, rfl⟩
theorem sw_open : ¬ ClosedL swO.tail := by
 intro h
 obtain ⟨_, h2⟩ := h (2, t1) (by simp [swO])
 obtain ⟨d, hd, e⟩ := h2 (pidL (dB pA)) (by rw [ndF_1]; simp)
 have hd2 : d ∈ swO := List.mem_of_mem_tail hd
 have := swO_cons.2 d hd2 _ mem_A e
 subst this
 obtain ⟨n1, n2, n3, _⟩ := ids_ne
 unfold swO at hd
 simp only [List.tail_cons, List.mem_cons, List.not_mem_nil, or_false] at hd
 rcases hd with e | e | e
 ·
  exact n1 (by rw [e])
 ·
  exact n2 (by rw [e])
 ·
  exact n3 (by rw [e])
theorem swO_tail : Cons swO.tail := swO_cons.sub fun b hb => List.mem_of_mem_tail hb
end Go.Proofs.YtbfoonfbhebhfaaGreatDoor
namespace Go.Proofs.YtbfoonfbhebhfaaGreatDoor
open Go.RowKit Plain Go.Maps Go.ChangeMaps
set_option linter.unusedVariables false
set_option linter.unusedSimpArgs false
theorem sat_tailW {α : Type} {n : Nat} {c : α → List Value} {w : World} {g off : Nat} {x : α} {l : List α} (h : SAt n c w (some ⟨g, off, none⟩) (x :: l)) : SAt n c w (some ⟨g, off + n, none⟩) l := by
 intro i hi
 obtain ⟨g', off', e, hg, hr⟩ := h (i + 1) (by simpa using hi)
 injection e with e
 injection e with e1 e2 _
 subst e1 e2
 refine ⟨g, off + n, rfl, hg, ?_⟩
 have : off + (i + 1) * n = off + n + i * n := by rw [Nat.add_mul]; omega
 rw [this] at hr
 exact hr
theorem sat_oneI {w : World} {B : Nat} {x : List Nat} (h : w.heap[B]? = some (.cells (idK x).toArray 30 (0, 0))) : SAt 8 idK w (some ⟨B, 0, none⟩) [x] := by
 intro i hi
 obtain rfl : i = 0 := by simp at hi; omega
 exact ⟨B, 0, rfl, lt_of_block h, by simpa using row_rangeI h⟩
set_option maxRecDepth 100000 in
set_option maxHeartbeats 2000000 in
theorem fetched_any (m : Int) (w : World) (hm : MaxL m w) (hT : Tabs w) (hMC : MaxC w) : Calls Tryz.prog 37 #[] w fun e w' => e = .returned (.bool true) ∧ Below w.heap.size w w' := by
 have HM := Lib.hid hm
 have HT := Lib.hid hT
 have HMC := Lib.hid hMC
 clear hm hT hMC
 obtain ⟨L, hL⟩ : ∃ L, swL = L := ⟨_, rfl⟩
 have HLP := Lib.hid sw_planted
 have HLZ := Lib.hid sw_size
 have HLT := Lib.hid sw_tm
 have HLL : Hid (swL.length = 2) := Lib.hid rfl
 have HSW := Lib.hid fun u => someWorld_any u
 unfold SwEnd at HSW
 rw [hL] at HLP HLZ HLT HLL HSW
 clear hL
 go_enter Tryz.func37, Tryz.ntmps37
 go_wp2_with fail
 refine (someWay_any _).mono ?_
 rintro e w1 ⟨rfl, hb1⟩
 have HB1 := Lib.hid hb1
 clear hb1
 go_wp2_with fail
 refine (HSW.out _).mono ?_
 rintro e w2 ⟨hb2, a2, rfl, hs2⟩
 have HB2 := Lib.hid (HB1.out.trans (hb2.mono HB1.out.size))
 have HS2 := Lib.hid hs2
 clear hb2 hs2
 go_wp2_with fail
 refine (plantE 16 0 0 0 a2 2 L m w2 HS2.out (by have := HLL.out; omega) HLZ.out HLT.out (HM.out.below HB2.out) (HT.out.below HB2.out) (HMC.out.below HB2.out)).mono ?_
 rintro e w3 ⟨hb3, ⟨out, i0, i1, i2, i3, i4, i5, i6, i7, oa, oc, hp, rfl, hs3, hown3, _⟩ | ⟨c, _, _, hno⟩⟩
 rotate_left
 ·
  exact absurd HLP.out (hno _ _)
 obtain ⟨ho, hid⟩ := hp.unique HLP.out
 have HOS : Hid (out = swO) := Lib.hid ho
 have HIS : Hid ([i0, i1, i2, i3, i4, i5, i6, i7] = pidL (2, t2)) := Lib.hid hid
 have h4 : out.length = 4 := by rw [ho]; rfl
 obtain ⟨g, off, rfl, hg, hx0⟩ := hs3 0 (by omega)
 clear hx0
 have hcap : out.length ≤ oc := by
  rcases hown3.2 with ⟨h0, _⟩ | ⟨g', cap, cur, h0, _, _, h5, _⟩
  ·
   injection h0 with h0 _ _; cases h0
  ·
   injection h0 with _ _ h0; omega
 rw [h4] at hcap
 have HB3 := Lib.hid (HB2.out.trans (hb3.mono HB2.out.size))
 have hba := (Below.refl w3.heap.size w3).alloc (Nat.le_refl _) (.cells #[.int .u8 (i0 : Int), .int .u8 (i1 : Int), .int .u8 (i2 : Int), .int .u8 (i3 : Int), .int .u8 (i4 : Int), .int .u8 (i5 : Int), .int .u8 (i6 : Int), .int .u8 (i7 : Int)] 30)
 have hna := heap_alloc_new w3 (.cells #[.int .u8 (i0 : Int), .int .u8 (i1 : Int), .int .u8 (i2 : Int), .int .u8 (i3 : Int), .int .u8 (i4 : Int), .int .u8 (i5 : Int), .int .u8 (i6 : Int), .int .u8 (i7 : Int)] 30)
 have HB4 := Lib.hid (HB3.out.trans (hba.mono HB3.out.size))
 have hb5 := (Below.refl (w3.alloc (.cells #[.int .u8 (i0 : Int), .int .u8 (i1 : Int), .int .u8 (i2 : Int), .int .u8 (i3 : Int), .int .u8 (i4 : Int), .int .u8 (i5 : Int), .int .u8 (i6 : Int), .int .u8 (i7 : Int)] 30)).heap.size (w3.alloc (.cells #[.int .u8 (i0 : Int), .int .u8 (i1 : Int), .int .u8 (i2 : Int), .int .u8 (i3 : Int), .int .u8 (i4 : Int), .int .u8 (i5 : Int), .int .u8 (i6 : Int), .int .u8 (i7 : Int)] 30))).alloc (Nat.le_refl _) (.cells #[.int .u8 (i0 : Int), .int .u8 (i1 : Int), .int .u8 (i2 : Int), .int .u8 (i3 : Int), .int .u8 (i4 : Int), .int .u8 (i5 : Int), .int .u8 (i6 : Int), .int .u8 (i7 : Int)] 30)
 have hn5 := heap_alloc_new (w3.alloc (.cells #[.int .u8 (i0 : Int), .int .u8 (i1 : Int), .int .u8 (i2 : Int), .int .u8 (i3 : Int), .int .u8 (i4 : Int), .int .u8 (i5 : Int), .int .u8 (i6 : Int), .int .u8 (i7 : Int)] 30)) (.cells #[.int .u8 (i0 : Int), .int .u8 (i1 : Int), .int .u8 (i2 : Int), .int .u8 (i3 : Int), .int .u8 (i4 : Int), .int .u8 (i5 : Int), .int .u8 (i6 : Int), .int .u8 (i7 : Int)] 30)
 have HB5 := Lib.hid (HB4.out.trans (hb5.mono HB4.out.size))
 have HS5 := Lib.hid ((hs3.below hba).below hb5)
 have hpl := plan_any none (some ⟨g, off, none⟩) (some ⟨(w3.alloc (.cells #[.int .u8 (i0 : Int), .int .u8 (i1 : Int), .int .u8 (i2 : Int), .int .u8 (i3 : Int), .int .u8 (i4 : Int), .int .u8 (i5 : Int), .int .u8 (i6 : Int), .int .u8 (i7 : Int)] 30)).heap.size, 0, none⟩) 0 oc 1 [] out [[i0, i1, i2, i3, i4, i5, i6, i7]] ((w3.alloc (.cells #[.int .u8 (i0 : Int), .int .u8 (i1 : Int), .int .u8 (i2 : Int), .int .u8 (i3 : Int), .int .u8 (i4 : Int), .int .u8 (i5 : Int), .int .u8 (i6 : Int), .int .u8 (i7 : Int)] 30)).alloc (.cells #[.int .u8 (i0 : Int), .int .u8 (i1 : Int), .int .u8 (i2 : Int), .int .u8 (i3 : Int), .int .u8 (i4 : Int), .int .u8 (i5 : Int), .int .u8 (i6 : Int), .int .u8 (i7 : Int)] 30)) SAt.nil HS5.out (sat_oneI hn5) (by intro x hx; cases hx) (by intro x hx; rw [List.mem_singleton] at hx; subst hx; rfl) (by decide) (by omega) (by show 1 ≤ 9223372036854775807; decide) (HT.out.below HB5.out)
 have hsz : (w3.alloc (.cells #[.int .u8 (i0 : Int), .int .u8 (i1 : Int), .int .u8 (i2 : Int), .int .u8 (i3 : Int), .int .u8 (i4 : Int), .int .u8 (i5 : Int), .int .u8 (i6 : Int), .int .u8 (i7 : Int)] 30)).heap.size = w3.heap.size + 1 := by simp
 rw [h4, hsz] at hpl
 have HPL : Hid (Calls Tryz.prog 38 #[.slice none 0 0, .slice (some ⟨g, off, none⟩) 4 oc, .slice (some ⟨w3.heap.size + 1, 0, none⟩) 1 1] ((w3.alloc (.cells #[.int .u8 (i0 : Int), .int .u8 (i1 : Int), .int .u8 (i2 : Int), .int .u8 (i3 : Int), .int .u8 (i4 : Int), .int .u8 (i5 : Int), .int .u8 (i6 : Int), .int .u8 (i7 : Int)] 30)).alloc (.cells #[.int .u8 (i0 : Int), .int .u8 (i1 : Int), .int .u8 (i2 : Int), .int .u8 (i3 : Int), .int .u8 (i4 : Int), .int .u8 (i5 : Int), .int .u8 (i6 : Int), .int .u8 (i7 : Int)] 30)) (PlanEnd [] out [[i0, i1, i2, i3, i4, i5, i6, i7]] ((w3.alloc (.cells #[.int .u8 (i0 : Int), .int .u8 (i1 : Int), .int .u8 (i2 : Int), .int .u8 (i3 : Int), .int .u8 (i4 : Int), .int .u8 (i5 : Int), .int .u8 (i6 : Int), .int .u8 (i7 : Int)] 30)).alloc (.cells #[.int .u8 (i0 : Int), .int .u8 (i1 : Int), .int .u8 (i2 : Int), .int .u8 (i3 : Int), .int .u8 (i4 : Int), .int .u8 (i5 : Int), .int .u8 (i6 : Int), .int .u8 (i7 : Int)] 30)))) := Lib.hid hpl
 have H4 := Lib.hid h4
 have HCAP := Lib.hid hcap
 have p0 := cell_of_row _ _ 0 _ _ _ hna
 have p1 := cell_of_row _ _ 1 _ _ _ hna
 have p2 := cell_of_row _ _ 2 _ _ _ hna
 have p3 := cell_of_row _ _ 3 _ _ _ hna
 have p4 := cell_of_row _ _ 4 _ _ _ hna
 have p5 := cell_of_row _ _ 5 _ _ _ hna
 have p6 := cell_of_row _ _ 6 _ _ _ hna
 have p7 := cell_of_row _ _ 7 _ _ _ hna
 simp only [List.getElem?_toArray, List.getElem?_cons_zero, List.getElem?_cons_succ] at p0 p1 p2 p3 p4 p5 p6 p7
 rw [h4]
 clear ho hid h4 hp hb3 hba hs3 hown3 hg hb5 hn5 hpl hna hsz
 go_wp2_with fail
 refine HPL.out.mono ?_
 rintro e w6 ⟨hb6, ⟨_, seen, o2, oa2, oc2, hpf, rfl, hown6, _⟩ | ⟨c, hc, _, hno⟩⟩
 rotate_left
 ·
  exfalso
  have h := hno ⟨by decide, by show 1 ≤ 64; decide, by rw [H4.out]; decide, by rw [HOS.out]; exact swO_cons⟩
  rw [HOS.out, HIS.out] at h
  obtain ⟨s, hs⟩ := sw_plan
  rw [hs] at h
  cases h
 have ho2 : o2 = out := by
  rw [HOS.out, HIS.out] at hpf
  obtain ⟨s, hs⟩ := sw_plan
  rw [hs] at hpf
  have e2 : swO = o2 := congrArg Prod.snd (Option.some.inj hpf)
  rw [HOS.out]
  exact e2.symm
 subst ho2
 have HB6 := Lib.hid (HB5.out.trans (hb6.mono HB5.out.size))
 have HS6 := Lib.hid (HS5.out.below hb6)
 have HQ6 := Lib.hid (own_satW blC_length hown6)
 rw [H4.out]
 clear hb6 hown6 hpf HPL p0 p1 p2 p3 p4 p5 p6 p7
 go_wp2_with fail
 refine (walked_any m w6 (HM.out.below HB6.out) (HT.out.below HB6.out) (HMC.out.below HB6.out)).mono ?_
 rintro e w7 ⟨rfl, hb7⟩
 have HB7 := Lib.hid (HB6.out.trans (hb7.mono HB6.out.size))
 have HS7 := Lib.hid (HS6.out.below hb7)
 have heq := eqBls_any (some ⟨g, off, none⟩) oa2 oc oc2 o2 o2 w7 HS7.out (HQ6.out.below hb7) (by have := H4.out; omega) (by have := H4.out; omega)
 rw [H4.out] at heq
 have HEQ := Lib.hid heq
 clear hb7 heq HS6 HQ6
 go_wp2_with fail
 refine HEQ.out.mono ?_
 rintro e w8 ⟨⟨r, rfl, hr⟩, hb8⟩
 obtain rfl : r = true := hr.2 rfl
 have HB8 := Lib.hid (HB7.out.trans (hb8.mono HB7.out.size))
 have HS8 := Lib.hid (HS7.out.below hb8)
 have hcl := closed_any (some ⟨g, off, none⟩) oc o2 w8 HS8.out (by have := H4.out; omega) (HT.out.below HB8.out)
 rw [H4.out] at hcl
 have HCL := Lib.hid hcl
 clear hr hb8 hcl HEQ HS7
 go_wp2_with fail
 refine HCL.out.mono ?_
 rintro e w9 ⟨hb9, c, rfl, hc, _⟩
 obtain rfl : c = 0 := hc.2 ⟨by rw [H4.out]; decide, by rw [HOS.out]; exact swO_cons, by rw [HOS.out]; exact sw_closed⟩
 have HB9 := Lib.hid (HB8.out.trans (hb9.mono HB8.out.size))
 have hs9 := HS8.out.below hb9
 rw [HOS.out] at hs9
 have hct := closed_any (some ⟨g, off + 2, none⟩) (oc - 1) swO.tail w9 (sat_tailW hs9) (by decide) (HT.out.below HB9.out)
 have HCT : Hid (Calls Tryz.prog 48 #[.slice (some ⟨g, off + 2, none⟩) 3 (oc - 1)] w9 (ClosEnd swO.tail w9)) := Lib.hid hct
 have hcapi : (4 : Int) ≤ (oc : Int) := by have := HCAP.out; omega
 have hcapn : 4 ≤ oc := HCAP.out
 clear hc hb9 hs9 hct HCL HS8
 go_wp2_with fail
 refine HCT.out.mono ?_
 rintro e wA ⟨hbA, c, rfl, hc, hc9⟩
 obtain rfl : c = 9 := by
  rcases hc9 (by decide) swO_tail (fun b hb => swO_nd b (List.mem_of_mem_tail hb)) with h | h
  ·
   exact absurd (hc.1 h).2.2 sw_open
  ·
   exact h
 have HBA := Lib.hid (HB9.out.trans (hbA.mono HB9.out.size))
 clear hc hc9 hbA
 go_wp2_with fail
 go_ret
 exact ⟨rfl, HBA.out⟩
end Go.Proofs.YtbfoonfbhebhfaaGreatDoor
