/- The walk of RoomHead. -/
import Derived.Test.YtinjnclpiiohcaaDoorRoomRead
import Derived.Test.YtinjnclpiiohcaaDoorSnapsEq
import Derived.Test.YtinjnclpiiohcaaDoorHeadOpen
import Derived.Test.YtinjnclpiiohcaaDoorInts
namespace Go.Proofs.YtinjnclpiiohcaaDoor
open Go.RowKit Plain
set_option linter.unusedVariables false
theorem HWr.inj {nx nx' : Int} {P P' : List Int} {S S' : List SM} {f : ByteArray} (h : HWr nx P S f) (h' : HWr nx' P' S' f) : nx = nx' ∧ P = P' ∧ S = S' := by
  obtain ⟨t, x1, y1, _⟩ := h.scan
  obtain ⟨t2, x2, y2, z2⟩ := h'.scan
  have e : strN t = strN t2 := by
    have := ((Frms.cons (.nil) y1).all idf8)
    rw [List.append_nil] at this
    simpa using (z2 this).1
  rw [← e] at x2
  obtain ⟨e0, _⟩ := (x1.rd h.1.hdb).unique (x2.rd h'.1.hdb)
  have e1 : nx.toNat = nx'.toNat := congrArg (·.1) e0
  have e2 : P.map Int.toNat = P'.map Int.toNat := congrArg (·.2.1) e0
  have e3 : S.map snOf = S'.map snOf := congrArg (·.2.2) e0
  obtain ⟨_, ⟨a1, _⟩, a2, a3, _⟩ := h.1
  obtain ⟨_, ⟨b1, _⟩, b2, b3, _⟩ := h'.1
  exact ⟨by omega, map_inj_on Int.toNat P P' e2 (fun x hx y hy e => by have := (a2 x hx).1; have := (b2 y hy).1; omega), map_inj_on snOf S S' e3 (fun x hx y hy e => snOf_inj e (a3 x hx).2.1 (b3 y hy).2.1)⟩
theorem HWr.same {nx : Int} {P : List Int} {S : List SM} {f g : ByteArray} (h : HWr nx P S f) (k : HWr nx P S g) : f = g := by
  obtain ⟨t1, x1, y1, _⟩ := h.scan
  obtain ⟨t2, x2, y2, _⟩ := k.scan
  have := x1.unique x2
  rw [this] at y1
  exact strN_inj (y1.unique y2)
theorem hd_zero : HdOk 0 [] [] := ⟨⟨by decide, by decide⟩, ⟨by decide, by decide⟩, fun p hp => absurd hp (by simp), fun s hs => absurd hs (by simp), fun i hi => absurd hi (by simp), by simp⟩
theorem hwr_zero : ∃ f : ByteArray, HWr 0 [] [] f ∧ f.size = 13 := by
  have n0 : Num 0 [0] := ⟨[], ⟨Dig.nil, by decide, rfl⟩, rfl⟩
  have hx : HTx (hdOf 0 [] []) (strN (strOf [0, 0, 0])) := by
    rw [strN_strOf _ (by decide)]
    exact ⟨[0], [0], [], [0], [], n0, n0, .nil, n0, .nil, rfl⟩
  have n3 : Num 3 [1, 3] := ⟨[3], ⟨⟨by simp, by simp⟩, by decide, rfl⟩, rfl⟩
  have hf : Frm idf (strN (strOf [0, 0, 0])) ([1, 3] ++ [0, 0, 0] ++ idf ([1, 3] ++ [0, 0, 0])) := by
    rw [strN_strOf _ (by decide)]
    exact ⟨by decide, [1, 3], n3, rfl⟩
  have hlt : ∀ c ∈ [1, 3] ++ [0, 0, 0] ++ idf ([1, 3] ++ [0, 0, 0]), c < 256 := fun c hc => by
    rcases List.mem_append.1 hc with h | h
    · simp only [List.cons_append, List.nil_append, List.mem_cons, List.not_mem_nil, or_false] at h; omega
    · exact idf_lt _ c h
  refine ⟨strOf ([1, 3] ++ [0, 0, 0] ++ idf ([1, 3] ++ [0, 0, 0])), ⟨hd_zero, _, hx, by rw [strN_strOf _ hlt]; exact hf⟩, ?_⟩
  rw [strOf_size, List.length_append, idf8]
  rfl
set_option maxRecDepth 100000 in
set_option maxHeartbeats 8000000 in
theorem roomHead_any (nx : Int) (P : List Int) (S : List SM) (pa sa : Option Addr) (pc sc : Nat) (s : ByteArray) (w : World) (hp : SAt 1 nC w pa P) (hs : SAt 10 smC w sa S) (hz : ∀ s ∈ S, s.1.size ≤ 4611686018427387904) (hq : ∀ s ∈ S, ∀ c ∈ idL s.2.2, c < 256) (hsz : s.size ≤ 1048576) (hT : Tabs w) (hM : MaxC w) :
    Calls Tryd.prog 6 #[.agg #[.int .i64 nx, .slice pa P.length pc, .slice sa S.length sc], .string s] w fun e w' => e = .returned (.bool true) ∧ Below w.heap.size w w' := by
  have HI3 : Hid (∀ a b c : Value, (Tryd.prog.info? 56).map (·.size) = some (#[a, b, c] : Array Value).size) := fun a b c => by show _ = _; kernel_rfl
  have HON3 : Hid (∀ (a : Int) (p q : Option Addr) (n c m d : Nat), (#[.int .i64 a, .slice p n c, .slice q m d] : Array Value).all (·.oneCell') = true) := fun a p q n c m d => by simp [Value.oneCell']
  have HB0 : Hid (Below w.heap.size w (w.alloc (.cells #[.int .i64 nx, .slice pa P.length pc, .slice sa S.length sc] 56))) := (Below.refl _ _).alloc (Nat.le_refl _) _
  have HR0 := Lib.hid (heap_alloc_new w (.cells #[.int .i64 nx, .slice pa P.length pc, .slice sa S.length sc] 56))
  have HP := Lib.hid hp
  have HS := Lib.hid hs
  have HZ := Lib.hid hz
  have HQ := Lib.hid hq
  have HT0 := Lib.hid hT
  have HM0 := Lib.hid hM
  have HSZ := Lib.hid hsz
  have HW0 := Lib.hid (rwrite_any 0 [] [] none none 0 0 (w.alloc (.cells #[.int .i64 nx, .slice pa P.length pc, .slice sa S.length sc] 56)) SAt.nil SAt.nil (fun s hs => absurd hs (by simp)) (fun s hs => absurd hs (by simp)) (hT.below HB0.out) (hM.below HB0.out))
  clear hp hs hz hq hT hM
  go_enter Tryd.func6, Tryd.ntmps6
  go_wp2_with fail
  refine HW0.out.mono ?_
  rintro e w1 ⟨hres, hb⟩
  have HB1 := Lib.hid (HB0.out.trans (hb.mono HB0.out.size))
  have HR1 := Lib.hid ((hb.block _ (lt_of_block HR0.out)).trans HR0.out)
  clear hb HW0
  rcases hres with ⟨f0, hw0, _, rfl⟩ | ⟨c, _, _, hno⟩
  rotate_left
  · obtain ⟨f, hf, _⟩ := hwr_zero
    exact absurd hf (hno f)
  have hf13 : (f0.size : Int) = 13 := by
    obtain ⟨f, hf, h13⟩ := hwr_zero
    rw [hw0.same hf, h13]
    rfl
  clear hw0
  have d0 := cell_of_row w1 w.heap.size 0 _ _ _ HR1.out
  have d1 := cell_of_row w1 w.heap.size 1 _ _ _ HR1.out
  have d2 := cell_of_row w1 w.heap.size 2 _ _ _ HR1.out
  simp only [List.getElem?_toArray, List.getElem?_cons_zero, List.getElem?_cons_succ] at d0 d1 d2
  have HW1 := Lib.hid (rwrite_any nx P S pa sa pc sc w1 (HP.out.below HB1.out) (HS.out.below HB1.out) HZ.out HQ.out (HT0.out.below HB1.out) (HM0.out.below HB1.out))
  go_wp2_with fail
  refine HW1.out.mono ?_
  rintro e w2 ⟨hres, hb⟩
  have HB2 := Lib.hid (HB1.out.trans (hb.mono HB1.out.size))
  have HR2 := Lib.hid ((hb.block _ (lt_of_block HR1.out)).trans HR1.out)
  clear hb HW1 d0 d1 d2
  rcases hres with ⟨t, hwt, ht42, rfl⟩ | ⟨c, hc0, rfl, hno⟩
  · have HWT := Lib.hid hwt
    have HRD := Lib.hid (rread_any t w2 (by omega) (HT0.out.below HB2.out) (HM0.out.below HB2.out))
    clear hwt
    go_wp2_with fail
    refine HRD.out.mono ?_
    rintro e w3 ⟨hb3, hrd⟩
    have HB3 := Lib.hid (HB2.out.trans (hb3.mono HB2.out.size))
    have HR3 := Lib.hid ((hb3.block _ (lt_of_block HR2.out)).trans HR2.out)
    clear hb3 HRD
    rcases hrd with ⟨nx1, P1, S1, pa1, pc1, sa1, sc1, rfl, hw1, hp1, hs1, ha1, h100, h20, _, _⟩ | ⟨c, _, _, hno⟩
    rotate_left
    · exact absurd HWT.out (hno _ _ _)
    obtain ⟨rfl, rfl, rfl⟩ := hw1.inj HWT.out
    have HP3 := Lib.hid hp1
    have HS3 := Lib.hid hs1
    have HB4 := Lib.hid (HB3.out.alloc HB3.out.size (.cells #[.int .i64 nx1, .slice pa1 P1.length pc1, .slice sa1 S1.length sc1] 56))
    have hba : Below w3.heap.size w3 (w3.alloc (.cells #[.int .i64 nx1, .slice pa1 P1.length pc1, .slice sa1 S1.length sc1] 56)) := (Below.refl _ _).alloc (Nat.le_refl _) _
    have HR4 := Lib.hid ((hba.block _ (lt_of_block HR3.out)).trans HR3.out)
    have HG4 := Lib.hid (heap_alloc_new w3 (.cells #[.int .i64 nx1, .slice pa1 P1.length pc1, .slice sa1 S1.length sc1] 56))
    have HEI := Lib.hid (eqInt_any pa1 pa pc1 pc P1 P1 (w3.alloc (.cells #[.int .i64 nx1, .slice pa1 P1.length pc1, .slice sa1 S1.length sc1] 56)) (hp1.below hba) (HP.out.below HB4.out) (by omega) (by omega))
    rw [decide_eq_true rfl] at HEI
    clear hw1 hp1 hs1 ha1
    have d0 := cell_of_row _ w.heap.size 0 _ _ _ HR4.out
    have d1 := cell_of_row _ w.heap.size 1 _ _ _ HR4.out
    have d2 := cell_of_row _ w.heap.size 2 _ _ _ HR4.out
    simp only [List.getElem?_toArray, List.getElem?_cons_zero, List.getElem?_cons_succ] at d0 d1 d2
    go_wp2_with fail
    refine HEI.out.mono ?_
    rintro e w5 ⟨rfl, hb5⟩
    have HB5 := Lib.hid (HB4.out.trans (hb5.mono HB4.out.size))
    have HR5 := Lib.hid ((hb5.block _ (lt_of_block HR4.out)).trans HR4.out)
    have HG5 := Lib.hid ((hb5.block _ (lt_of_block HG4.out)).trans HG4.out)
    have HES := Lib.hid (eqSnaps_any sa1 sa sc1 sc S1 S1 w5 ((HS3.out.below hba).below hb5) (HS.out.below HB5.out) (by omega) (by omega))
    clear hb5 d0 d1 d2 HEI hba
    have d0 := cell_of_row w5 w.heap.size 0 _ _ _ HR5.out
    have d1 := cell_of_row w5 w.heap.size 1 _ _ _ HR5.out
    have d2 := cell_of_row w5 w.heap.size 2 _ _ _ HR5.out
    simp only [List.getElem?_toArray, List.getElem?_cons_zero, List.getElem?_cons_succ] at d0 d1 d2
    have k0 := cell_of_row w5 w3.heap.size 0 _ _ _ HG5.out
    have k1 := cell_of_row w5 w3.heap.size 1 _ _ _ HG5.out
    have k2 := cell_of_row w5 w3.heap.size 2 _ _ _ HG5.out
    simp only [List.getElem?_toArray, List.getElem?_cons_zero, List.getElem?_cons_succ] at k0 k1 k2
    go_wp2_with fail
    refine HES.out.mono ?_
    rintro e w6 ⟨⟨r, rfl, hr⟩, hb6⟩
    obtain rfl : r = true := hr.2 rfl
    have HB6 := Lib.hid (HB5.out.trans (hb6.mono HB5.out.size))
    have HG6 := Lib.hid ((hb6.block _ (lt_of_block HG5.out)).trans HG5.out)
    have HGS : Hid (∃ GB, w3.heap.size = GB) := ⟨_, rfl⟩
    clear hb6 d0 d1 d2 hr HES
    obtain ⟨GB, hGB⟩ := HGS.out
    rw [hGB] at HG6
    rw [hGB]
    have HGW : Hid (w.heap.size ≤ GB) := by rw [← hGB]; exact HB3.out.size
    clear hGB
    have HRS := Lib.hid (rread_any s w6 (by have := HSZ.out; omega) (HT0.out.below HB6.out) (HM0.out.below HB6.out))
    clear k0 k1 k2
    go_wp2_with fail
    refine HRS.out.mono ?_
    rintro e w8 ⟨hb8, hrd⟩
    have HB8 := Lib.hid (HB6.out.trans (hb8.mono HB6.out.size))
    have HG8 := Lib.hid ((hb8.block _ (lt_of_block HG6.out)).trans HG6.out)
    have HGL : Hid (GB < w6.heap.size) := lt_of_block HG6.out
    clear hb8 HRS
    rcases hrd with ⟨nx2, P2, S2, pa2, pc2, sa2, sc2, rfl, hw2, hp2, hs2, ha2, h102, h22, fp2, fs2⟩ | ⟨c2, hc2, rfl, hno2⟩
    · have HW2 := Lib.hid hw2
      have HRR : Hid (World.there w8 GB 0 (#[.int .i64 nx2, .slice pa2 P2.length pc2, .slice sa2 S2.length sc2] : Array Value).size) := (by have := there_row HG8.out; exact this)
      have HP9 : Hid (SAt 1 nC (w8.setCells GB 0 [.int .i64 nx2, .slice pa2 P2.length pc2, .slice sa2 S2.length sc2]) pa2 P2) := sat_otherC hp2 HG8.out (fun p hp e => by have := fp2 p hp; have := HGL.out; omega) _
      have HS9 : Hid (SAt 10 smC (w8.setCells GB 0 [.int .i64 nx2, .slice pa2 P2.length pc2, .slice sa2 S2.length sc2]) sa2 S2) := sat_otherC hs2 HG8.out (fun p hp e => by have := fs2 p hp; have := HGL.out; omega) _
      have HB9 : Hid (Below w.heap.size w (w8.setCells GB 0 [.int .i64 nx2, .slice pa2 P2.length pc2, .slice sa2 S2.length sc2])) := below_setCells HGW.out [.int .i64 nx2, .slice pa2 P2.length pc2, .slice sa2 S2.length sc2] 0 HB8.out
      have HG9 : Hid ((w8.setCells GB 0 [.int .i64 nx2, .slice pa2 P2.length pc2, .slice sa2 S2.length sc2]).heap[GB]? = some (.cells #[.int .i64 nx2, .slice pa2 P2.length pc2, .slice sa2 S2.length sc2] 56 (0, 0))) := setCells_full HG8.out #[.int .i64 nx2, .slice pa2 P2.length pc2, .slice sa2 S2.length sc2] rfl
      have HWG := Lib.hid (rwrite_any nx2 P2 S2 pa2 sa2 pc2 sc2 _ HP9.out HS9.out (fun s hs => by have := (ha2 s hs).1; omega) (fun s hs => (ha2 s hs).2) (HT0.out.below HB9.out) (HM0.out.below HB9.out))
      clear hw2 hp2 hs2 fp2 fs2
      have k0 := cell_of_row _ GB 0 _ _ _ HG9.out
      have k1 := cell_of_row _ GB 1 _ _ _ HG9.out
      have k2 := cell_of_row _ GB 2 _ _ _ HG9.out
      simp only [List.getElem?_toArray, List.getElem?_cons_zero, List.getElem?_cons_succ] at k0 k1 k2
      go_wp2_with (with_reducible refine wpList_store_mid rfl 56 (.tmp 9) (.tmp 66) rfl GB 0 #[.int .i64 nx2, .slice pa2 P2.length pc2, .slice sa2 S2.length sc2] rfl rfl HRR.out (HI3.out _ _ _) (HON3.out _ _ _ _ _ _ _) ?_)
      refine HWG.out.mono ?_
      rintro e w10 ⟨hres, hb10⟩
      have HBA := Lib.hid (HB9.out.trans (hb10.mono HB9.out.size))
      clear hb10 k0 k1 k2 HWG
      rcases hres with ⟨f, hwf, _, rfl⟩ | ⟨c4, _, _, hno⟩
      · obtain rfl : f = s := hwf.same HW2.out
        have e1 : (f.toList == f.toList) = true := by simp
        clear hwf
        go_wp2_with fail
        go_ret
        exact ⟨rfl, HBA.out⟩
      · exact absurd HW2.out (hno s)
    · have f2 : (c2 == 0) = false := by simpa using hc2
      have f3 : (c2 != 0) = true := by simpa using hc2
      have HRR : Hid (World.there w8 GB 0 (#[.int .i64 0, .slice none 0 0, .slice none 0 0] : Array Value).size) := (by have := there_row HG8.out; exact this)
      have HB9 : Hid (Below w.heap.size w (w8.setCells GB 0 [.int .i64 0, .slice none 0 0, .slice none 0 0])) := below_setCells HGW.out [.int .i64 0, .slice none 0 0, .slice none 0 0] 0 HB8.out
      have HG9 : Hid ((w8.setCells GB 0 [.int .i64 0, .slice none 0 0, .slice none 0 0]).heap[GB]? = some (.cells #[.int .i64 0, .slice none 0 0, .slice none 0 0] 56 (0, 0))) := setCells_full HG8.out #[.int .i64 0, .slice none 0 0, .slice none 0 0] rfl
      have HWG := Lib.hid (rwrite_any 0 [] [] none none 0 0 _ SAt.nil SAt.nil (fun s hs => absurd hs (by simp)) (fun s hs => absurd hs (by simp)) (HT0.out.below HB9.out) (HM0.out.below HB9.out))
      have k0 := cell_of_row _ GB 0 _ _ _ HG9.out
      have k1 := cell_of_row _ GB 1 _ _ _ HG9.out
      have k2 := cell_of_row _ GB 2 _ _ _ HG9.out
      simp only [List.getElem?_toArray, List.getElem?_cons_zero, List.getElem?_cons_succ] at k0 k1 k2
      go_wp2_with (with_reducible refine wpList_store_mid rfl 56 (.tmp 9) (.tmp 66) rfl GB 0 #[.int .i64 0, .slice none 0 0, .slice none 0 0] rfl rfl HRR.out (HI3.out _ _ _) (HON3.out _ _ _ _ _ _ _) ?_)
      refine HWG.out.mono ?_
      rintro e w10 ⟨hres, hb10⟩
      have HBA := Lib.hid (HB9.out.trans (hb10.mono HB9.out.size))
      have HGA := Lib.hid ((hb10.block _ (lt_of_block HG9.out)).trans HG9.out)
      clear hb10 k0 k1 k2 HWG
      have k0 := cell_of_row w10 GB 0 _ _ _ HGA.out
      have k1 := cell_of_row w10 GB 1 _ _ _ HGA.out
      have k2 := cell_of_row w10 GB 2 _ _ _ HGA.out
      simp only [List.getElem?_toArray, List.getElem?_cons_zero, List.getElem?_cons_succ] at k0 k1 k2
      rcases hres with ⟨f, hwf, _, rfl⟩ | ⟨c4, hc4, rfl, hno⟩
      · clear hwf
        go_wp2_with fail
        go_ret
        exact ⟨rfl, HBA.out⟩
      · have f5 : (c4 == 0) = false := by simpa using hc4
        clear hno
        go_wp2_with fail
        go_ret
        exact ⟨rfl, HBA.out⟩
  · have f1 : (c == 0) = false := by simpa using hc0
    have HRD := Lib.hid (rread_any ⟨#[]⟩ w2 (by decide) (HT0.out.below HB2.out) (HM0.out.below HB2.out))
    go_wp2_with fail
    refine HRD.out.mono ?_
    rintro e w3 ⟨hb3, hrd⟩
    have HB3 := Lib.hid (HB2.out.trans (hb3.mono HB2.out.size))
    clear hb3 HRD
    rcases hrd with ⟨nx1, P1, S1, pa1, pc1, sa1, sc1, rfl, hw1, _⟩ | ⟨c3, hc3, rfl, _⟩
    · obtain ⟨t, _, hf, _⟩ := hw1.scan
      have := hf.length idf8
      simp [strN] at this
    have HB6 := Lib.hid (HB3.out.alloc HB3.out.size (.cells #[.int .i64 0, .slice none 0 0, .slice none 0 0] 56))
    have HG6 := Lib.hid (heap_alloc_new w3 (.cells #[.int .i64 0, .slice none 0 0, .slice none 0 0] 56))
    have HGS : Hid (∃ GB, w3.heap.size = GB) := ⟨_, rfl⟩
    go_wp2_with fail
    obtain ⟨GB, hGB⟩ := HGS.out
    rw [hGB] at HG6
    rw [hGB]
    have HGW : Hid (w.heap.size ≤ GB) := by rw [← hGB]; exact HB3.out.size
    generalize w3.alloc (.cells #[.int .i64 0, .slice none 0 0, .slice none 0 0] 56) = w6 at *
    clear hGB
    have HRS := Lib.hid (rread_any s w6 (by have := HSZ.out; omega) (HT0.out.below HB6.out) (HM0.out.below HB6.out))
    refine HRS.out.mono ?_
    rintro e w8 ⟨hb8, hrd⟩
    have HB8 := Lib.hid (HB6.out.trans (hb8.mono HB6.out.size))
    have HG8 := Lib.hid ((hb8.block _ (lt_of_block HG6.out)).trans HG6.out)
    have HGL : Hid (GB < w6.heap.size) := lt_of_block HG6.out
    clear hb8 HRS
    rcases hrd with ⟨nx2, P2, S2, pa2, pc2, sa2, sc2, rfl, hw2, hp2, hs2, ha2, h102, h22, fp2, fs2⟩ | ⟨c2, hc2, rfl, hno2⟩
    · have HW2 := Lib.hid hw2
      have HRR : Hid (World.there w8 GB 0 (#[.int .i64 nx2, .slice pa2 P2.length pc2, .slice sa2 S2.length sc2] : Array Value).size) := (by have := there_row HG8.out; exact this)
      have HP9 : Hid (SAt 1 nC (w8.setCells GB 0 [.int .i64 nx2, .slice pa2 P2.length pc2, .slice sa2 S2.length sc2]) pa2 P2) := sat_otherC hp2 HG8.out (fun p hp e => by have := fp2 p hp; have := HGL.out; omega) _
      have HS9 : Hid (SAt 10 smC (w8.setCells GB 0 [.int .i64 nx2, .slice pa2 P2.length pc2, .slice sa2 S2.length sc2]) sa2 S2) := sat_otherC hs2 HG8.out (fun p hp e => by have := fs2 p hp; have := HGL.out; omega) _
      have HB9 : Hid (Below w.heap.size w (w8.setCells GB 0 [.int .i64 nx2, .slice pa2 P2.length pc2, .slice sa2 S2.length sc2])) := below_setCells HGW.out [.int .i64 nx2, .slice pa2 P2.length pc2, .slice sa2 S2.length sc2] 0 HB8.out
      have HG9 : Hid ((w8.setCells GB 0 [.int .i64 nx2, .slice pa2 P2.length pc2, .slice sa2 S2.length sc2]).heap[GB]? = some (.cells #[.int .i64 nx2, .slice pa2 P2.length pc2, .slice sa2 S2.length sc2] 56 (0, 0))) := setCells_full HG8.out #[.int .i64 nx2, .slice pa2 P2.length pc2, .slice sa2 S2.length sc2] rfl
      have HWG := Lib.hid (rwrite_any nx2 P2 S2 pa2 sa2 pc2 sc2 _ HP9.out HS9.out (fun s hs => by have := (ha2 s hs).1; omega) (fun s hs => (ha2 s hs).2) (HT0.out.below HB9.out) (HM0.out.below HB9.out))
      clear hw2 hp2 hs2 fp2 fs2
      have k0 := cell_of_row _ GB 0 _ _ _ HG9.out
      have k1 := cell_of_row _ GB 1 _ _ _ HG9.out
      have k2 := cell_of_row _ GB 2 _ _ _ HG9.out
      simp only [List.getElem?_toArray, List.getElem?_cons_zero, List.getElem?_cons_succ] at k0 k1 k2
      go_wp2_with (with_reducible refine wpList_store_mid rfl 56 (.tmp 9) (.tmp 66) rfl GB 0 #[.int .i64 nx2, .slice pa2 P2.length pc2, .slice sa2 S2.length sc2] rfl rfl HRR.out (HI3.out _ _ _) (HON3.out _ _ _ _ _ _ _) ?_)
      refine HWG.out.mono ?_
      rintro e w10 ⟨hres, hb10⟩
      have HBA := Lib.hid (HB9.out.trans (hb10.mono HB9.out.size))
      clear hb10 k0 k1 k2 HWG
      rcases hres with ⟨f, hwf, _, rfl⟩ | ⟨c4, _, _, hno⟩
      · obtain rfl : f = s := hwf.same HW2.out
        have e1 : (f.toList == f.toList) = true := by simp
        clear hwf
        go_wp2_with fail
        go_ret
        exact ⟨rfl, HBA.out⟩
      · exact absurd HW2.out (hno s)
    · have f2 : (c2 == 0) = false := by simpa using hc2
      have f3 : (c2 != 0) = true := by simpa using hc2
      have HRR : Hid (World.there w8 GB 0 (#[.int .i64 0, .slice none 0 0, .slice none 0 0] : Array Value).size) := (by have := there_row HG8.out; exact this)
      have HB9 : Hid (Below w.heap.size w (w8.setCells GB 0 [.int .i64 0, .slice none 0 0, .slice none 0 0])) := below_setCells HGW.out [.int .i64 0, .slice none 0 0, .slice none 0 0] 0 HB8.out
      have HG9 : Hid ((w8.setCells GB 0 [.int .i64 0, .slice none 0 0, .slice none 0 0]).heap[GB]? = some (.cells #[.int .i64 0, .slice none 0 0, .slice none 0 0] 56 (0, 0))) := setCells_full HG8.out #[.int .i64 0, .slice none 0 0, .slice none 0 0] rfl
      have HWG := Lib.hid (rwrite_any 0 [] [] none none 0 0 _ SAt.nil SAt.nil (fun s hs => absurd hs (by simp)) (fun s hs => absurd hs (by simp)) (HT0.out.below HB9.out) (HM0.out.below HB9.out))
      have k0 := cell_of_row _ GB 0 _ _ _ HG9.out
      have k1 := cell_of_row _ GB 1 _ _ _ HG9.out
      have k2 := cell_of_row _ GB 2 _ _ _ HG9.out
      simp only [List.getElem?_toArray, List.getElem?_cons_zero, List.getElem?_cons_succ] at k0 k1 k2
      go_wp2_with (with_reducible refine wpList_store_mid rfl 56 (.tmp 9) (.tmp 66) rfl GB 0 #[.int .i64 0, .slice none 0 0, .slice none 0 0] rfl rfl HRR.out (HI3.out _ _ _) (HON3.out _ _ _ _ _ _ _) ?_)
      refine HWG.out.mono ?_
      rintro e w10 ⟨hres, hb10⟩
      have HBA := Lib.hid (HB9.out.trans (hb10.mono HB9.out.size))
      have HGA := Lib.hid ((hb10.block _ (lt_of_block HG9.out)).trans HG9.out)
      clear hb10 k0 k1 k2 HWG
      have k0 := cell_of_row w10 GB 0 _ _ _ HGA.out
      have k1 := cell_of_row w10 GB 1 _ _ _ HGA.out
      have k2 := cell_of_row w10 GB 2 _ _ _ HGA.out
      simp only [List.getElem?_toArray, List.getElem?_cons_zero, List.getElem?_cons_succ] at k0 k1 k2
      rcases hres with ⟨f, hwf, _, rfl⟩ | ⟨c4, hc4, rfl, hno⟩
      · clear hwf
        go_wp2_with fail
        go_ret
        exact ⟨rfl, HBA.out⟩
      · have f5 : (c4 == 0) = false := by simpa using hc4
        clear hno
        go_wp2_with fail
        go_ret
        exact ⟨rfl, HBA.out⟩
end Go.Proofs.YtinjnclpiiohcaaDoor
