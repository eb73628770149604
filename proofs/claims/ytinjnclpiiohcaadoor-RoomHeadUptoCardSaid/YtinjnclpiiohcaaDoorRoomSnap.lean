/- The walk of room's reader's snap. -/
import Derived.Test.YtinjnclpiiohcaaDoorRoomCheck
import Derived.Test.YtinjnclpiiohcaaDoorBase0
import Derived.Laws.Cover3
namespace Go.Proofs.YtinjnclpiiohcaaDoor
open Go.RowKit Plain
def snV (x : Sn) : Value := .agg (([.string (strOf x.1), .int .i64 (x.2.1 : Int)] : List Value) ++ x.2.2.map bV).toArray
theorem bx_setCellsB {R : Nat} {a b : World} {N : Nat} (h : BX R a b) (hN : a.heap.size ≤ N) (vs : List Value) (o : Nat := 0) : BX R a (b.setCells N o vs) := by
  refine ⟨below_setCells (Nat.zero_le _) _ _ h.1, fun k hk hne => ?_⟩
  rw [heap_setCells_other _ _ (by omega)]
  exact h.2 k hk hne
theorem set8 {w : World} {b : Nat} {t : TypeId} {s n z0 z1 z2 z3 z4 z5 z6 z7 : Value} (v0 v1 v2 v3 v4 v5 v6 v7 : Value) (h : w.heap[b]? = some (.cells #[s, n, z0, z1, z2, z3, z4, z5, z6, z7] t (0, 0))) :
    (w.setCells b 2 [v0, v1, v2, v3, v4, v5, v6, v7]).heap[b]? = some (.cells #[s, n, v0, v1, v2, v3, v4, v5, v6, v7] t (0, 0)) := by
  have h0 : (w.setCell ⟨b, 2, none⟩ v0).heap[b]? = some (.cells #[s, n, v0, z1, z2, z3, z4, z5, z6, z7] t (0, 0)) := by
    have := heap_setCell_same w b 2 _ t v0 h
    simpa using this
  have h1 : ((w.setCell ⟨b, 2, none⟩ v0).setCell ⟨b, 3, none⟩ v1).heap[b]? = some (.cells #[s, n, v0, v1, z2, z3, z4, z5, z6, z7] t (0, 0)) := by
    have := heap_setCell_same (w.setCell ⟨b, 2, none⟩ v0) b 3 _ t v1 h0
    simpa using this
  have h2 : (((w.setCell ⟨b, 2, none⟩ v0).setCell ⟨b, 3, none⟩ v1).setCell ⟨b, 4, none⟩ v2).heap[b]? = some (.cells #[s, n, v0, v1, v2, z3, z4, z5, z6, z7] t (0, 0)) := by
    have := heap_setCell_same ((w.setCell ⟨b, 2, none⟩ v0).setCell ⟨b, 3, none⟩ v1) b 4 _ t v2 h1
    simpa using this
  have h3 : ((((w.setCell ⟨b, 2, none⟩ v0).setCell ⟨b, 3, none⟩ v1).setCell ⟨b, 4, none⟩ v2).setCell ⟨b, 5, none⟩ v3).heap[b]? = some (.cells #[s, n, v0, v1, v2, v3, z4, z5, z6, z7] t (0, 0)) := by
    have := heap_setCell_same (((w.setCell ⟨b, 2, none⟩ v0).setCell ⟨b, 3, none⟩ v1).setCell ⟨b, 4, none⟩ v2) b 5 _ t v3 h2
    simpa using this
  have h4 : (((((w.setCell ⟨b, 2, none⟩ v0).setCell ⟨b, 3, none⟩ v1).setCell ⟨b, 4, none⟩ v2).setCell ⟨b, 5, none⟩ v3).setCell ⟨b, 6, none⟩ v4).heap[b]? = some (.cells #[s, n, v0, v1, v2, v3, v4, z5, z6, z7] t (0, 0)) := by
    have := heap_setCell_same ((((w.setCell ⟨b, 2, none⟩ v0).setCell ⟨b, 3, none⟩ v1).setCell ⟨b, 4, none⟩ v2).setCell ⟨b, 5, none⟩ v3) b 6 _ t v4 h3
    simpa using this
  have h5 : ((((((w.setCell ⟨b, 2, none⟩ v0).setCell ⟨b, 3, none⟩ v1).setCell ⟨b, 4, none⟩ v2).setCell ⟨b, 5, none⟩ v3).setCell ⟨b, 6, none⟩ v4).setCell ⟨b, 7, none⟩ v5).heap[b]? = some (.cells #[s, n, v0, v1, v2, v3, v4, v5, z6, z7] t (0, 0)) := by
    have := heap_setCell_same (((((w.setCell ⟨b, 2, none⟩ v0).setCell ⟨b, 3, none⟩ v1).setCell ⟨b, 4, none⟩ v2).setCell ⟨b, 5, none⟩ v3).setCell ⟨b, 6, none⟩ v4) b 7 _ t v5 h4
    simpa using this
  have h6 : (((((((w.setCell ⟨b, 2, none⟩ v0).setCell ⟨b, 3, none⟩ v1).setCell ⟨b, 4, none⟩ v2).setCell ⟨b, 5, none⟩ v3).setCell ⟨b, 6, none⟩ v4).setCell ⟨b, 7, none⟩ v5).setCell ⟨b, 8, none⟩ v6).heap[b]? = some (.cells #[s, n, v0, v1, v2, v3, v4, v5, v6, z7] t (0, 0)) := by
    have := heap_setCell_same ((((((w.setCell ⟨b, 2, none⟩ v0).setCell ⟨b, 3, none⟩ v1).setCell ⟨b, 4, none⟩ v2).setCell ⟨b, 5, none⟩ v3).setCell ⟨b, 6, none⟩ v4).setCell ⟨b, 7, none⟩ v5) b 8 _ t v6 h5
    simpa using this
  have h7 : ((((((((w.setCell ⟨b, 2, none⟩ v0).setCell ⟨b, 3, none⟩ v1).setCell ⟨b, 4, none⟩ v2).setCell ⟨b, 5, none⟩ v3).setCell ⟨b, 6, none⟩ v4).setCell ⟨b, 7, none⟩ v5).setCell ⟨b, 8, none⟩ v6).setCell ⟨b, 9, none⟩ v7).heap[b]? = some (.cells #[s, n, v0, v1, v2, v3, v4, v5, v6, v7] t (0, 0)) := by
    have := heap_setCell_same (((((((w.setCell ⟨b, 2, none⟩ v0).setCell ⟨b, 3, none⟩ v1).setCell ⟨b, 4, none⟩ v2).setCell ⟨b, 5, none⟩ v3).setCell ⟨b, 6, none⟩ v4).setCell ⟨b, 7, none⟩ v5).setCell ⟨b, 8, none⟩ v6) b 9 _ t v7 h6
    simpa using this
  exact h7
theorem there_off {w : World} {b : Nat} {t : TypeId} {s n z0 z1 z2 z3 z4 z5 z6 z7 : Value} (h : w.heap[b]? = some (.cells #[s, n, z0, z1, z2, z3, z4, z5, z6, z7] t (0, 0))) : w.there b 2 8 := fun j hj => by
  refine ⟨?_, frozen_of_row _ _ _ _ _ h⟩
  rw [cell_of_row _ _ _ _ _ _ h, Array.getElem?_eq_getElem (by show 2 + j < 10; omega)]
  rfl
theorem eight' {l : List Nat} (h : l.length = 8) : ∃ t : ID8, l = idL t := by
  match l, h with
  | [a, b, c, d, e, f, g, i], _ => exact ⟨(a, b, c, d, e, f, g, i), rfl⟩
set_option maxRecDepth 100000 in
set_option maxHeartbeats 4000000 in
theorem rsnap_any (R : Nat) (l : ByteArray) (b : Bool) (w : World) (hl : l.size ≤ 9223372036854775806) (h : RSB w R l b) : Calls Tryd.prog 42 #[.pointer (some ⟨R, 0, none⟩)] w (PEB pSn ([], 0, [0, 0, 0, 0, 0, 0, 0, 0]) snV R l b w) := by
  have HG := Lib.hid fun u => getText_any l u hl
  have HRL := Lib.hid (lt_of_block h)
  have HB0 := Lib.hid ((Below.refl w.heap.size w).alloc (Nat.le_refl _) (.cells #[.string ⟨#[]⟩, .int .i64 0, .int .u8 0, .int .u8 0, .int .u8 0, .int .u8 0, .int .u8 0, .int .u8 0, .int .u8 0, .int .u8 0] 63))
  have HR0 := Lib.hid (h.below HB0.out)
  have HI : Hid ((Tryd.prog.info? 63).map (·.size) = some (#[.string ⟨#[]⟩, .int .i64 0, .int .u8 0, .int .u8 0, .int .u8 0, .int .u8 0, .int .u8 0, .int .u8 0, .int .u8 0, .int .u8 0] : Array Value).size) := by show _ = _; kernel_rfl
  have HON : Hid ((#[.string ⟨#[]⟩, .int .i64 0, .int .u8 0, .int .u8 0, .int .u8 0, .int .u8 0, .int .u8 0, .int .u8 0, .int .u8 0, .int .u8 0] : Array Value).all (·.oneCell') = true) := by show _ = _; simp [Value.oneCell']
  have h0 := HR0.out.c0
  clear h
  go_enter Tryd.func42, Tryd.ntmps42
  go_wp2_with fail
  refine (HG.out _).mono ?_
  rintro e1 w1 ⟨t, k, c, hgt, htl, rfl, hb1⟩
  have HR1 := Lib.hid (HR0.out.below hb1)
  have HB1 := Lib.hid (Below.step HB0.out hb1)
  have HS1 : Hid (w1.heap[w.heap.size]? = some (.cells #[.string ⟨#[]⟩, .int .i64 0, .int .u8 0, .int .u8 0, .int .u8 0, .int .u8 0, .int .u8 0, .int .u8 0, .int .u8 0, .int .u8 0] 63 (0, 0))) := (hb1.block _ (by simp)).trans (heap_alloc_new w _)
  clear hb1 h0
  have x1 := HR1.out.c1
  have z1 := HR1.out.fz 1
  have HNE : Hid (w.heap.size ≠ R) := by have := HRL.out; show _ ≠ _; omega
  have HS1b : Hid ((w1.setCell ⟨R, 1, none⟩ (.bool true)).heap[w.heap.size]? = some (.cells #[.string ⟨#[]⟩, .int .i64 0, .int .u8 0, .int .u8 0, .int .u8 0, .int .u8 0, .int .u8 0, .int .u8 0, .int .u8 0, .int .u8 0] 63 (0, 0))) := (heap_setCell_other _ _ _ _ HNE.out).trans HS1.out
  cases b with
  | true =>
    have HTH : Hid (World.there (w1.setCell ⟨R, 1, none⟩ (.bool true)) w.heap.size 0 (#[.string ⟨#[]⟩, .int .i64 0, .int .u8 0, .int .u8 0, .int .u8 0, .int .u8 0, .int .u8 0, .int .u8 0, .int .u8 0, .int .u8 0] : Array Value).size) := there_row HS1b.out
    go_wp2_with (with_reducible refine wpList_store_mid rfl 63 (.tmp 2) (.tmp 27) rfl w.heap.size 0 #[.string ⟨#[]⟩, .int .i64 0, .int .u8 0, .int .u8 0, .int .u8 0, .int .u8 0, .int .u8 0, .int .u8 0, .int .u8 0, .int .u8 0] rfl rfl HTH.out HI.out HON.out ?_)
    (try simp only [Exit.inBlock, Exit.then])
    refine bodyPost_ret (results_row (p := 2) (ty := 63) rfl _ _ w.heap.size 63 #[.string ⟨#[]⟩, .int .i64 0, .int .u8 0, .int .u8 0, .int .u8 0, .int .u8 0, .int .u8 0, .int .u8 0, .int .u8 0, .int .u8 0] (0, 0) _ rfl (setCells_full HS1b.out #[.string ⟨#[]⟩, .int .i64 0, .int .u8 0, .int .u8 0, .int .u8 0, .int .u8 0, .int .u8 0, .int .u8 0, .int .u8 0, .int .u8 0] rfl) Tryd.underlying63 rfl HI.out) rfl ?_
    exact ⟨([], 0, [0, 0, 0, 0, 0, 0, 0, 0]), _, true, rfl, (heap_setCells_other _ _ (by have := HRL.out; omega) _ _ _).trans (HR1.out.set1 true), bx_setCellsB ((BX.of_below HB1.out).set 1 _) (Nat.le_refl _) _ 0, (Nat.le_refl _), .inr ⟨.inl rfl, rfl, rfl⟩⟩
  | false =>
    by_cases hc : c = 0
    · subst hc
      have hkb := hgt.ok.1
      rw [strN_length] at hkb
      have k0 : (0 : Int) ≤ (k : Int) := Int.natCast_nonneg _
      have k1 : (k : Int) ≤ (l.size : Int) := by omega
      obtain ⟨D, hD⟩ : ∃ D, l.extract k l.size = D := ⟨_, rfl⟩
      have hDN : strN D = (strN l).drop k := by rw [← hD]; exact extract_strN l k
      have HP : Hid (getT (strN l) = some (t, strN D)) := by
        show _ = _
        rw [(getT_end hgt).1 rfl, hDN]
      have HZ : Hid (D.size ≤ l.size) := by show _ ≤ _; rw [← strN_length, hDN, List.length_drop, strN_length]; omega
      have y0 := HR1.out.c0
      have w0 := HR1.out.fz 0
      have HN := Lib.hid (rnumber_any R D false 4223371679 (w1.setCell ⟨R, 0, none⟩ (.string D)) (by have := HZ.out; omega) (by decide) (HR1.out.set0 D))
      have HBX1 : Hid (BX R w (w1.setCell ⟨R, 0, none⟩ (.string D))) := (BX.of_below HB1.out).set 0 (.string D)
      have HS2 : Hid ((w1.setCell ⟨R, 0, none⟩ (.string D)).heap[w.heap.size]? = some (.cells #[.string ⟨#[]⟩, .int .i64 0, .int .u8 0, .int .u8 0, .int .u8 0, .int .u8 0, .int .u8 0, .int .u8 0, .int .u8 0, .int .u8 0] 63 (0, 0))) := (heap_setCell_other _ _ _ _ HNE.out).trans HS1.out
      clear hDN hkb hgt htl HS1b
      go_wp2_with fail
      refine HN.out.mono ?_
      rintro e2 w3 ⟨n, l', b', rfl, hr3, hbx3, hz3, hpn⟩
      have HR3 := Lib.hid (hr3.below ((Below.refl w3.heap.size w3).alloc (Nat.le_refl _) (.cells #[.string (strOf t), .int .i64 (n : Int), .int .u8 0, .int .u8 0, .int .u8 0, .int .u8 0, .int .u8 0, .int .u8 0, .int .u8 0, .int .u8 0] 63)))
      have HBX3 := Lib.hid ((HBX1.out.trans hbx3).alloc (.cells #[.string (strOf t), .int .i64 (n : Int), .int .u8 0, .int .u8 0, .int .u8 0, .int .u8 0, .int .u8 0, .int .u8 0, .int .u8 0, .int .u8 0] 63))
      have HS3 : Hid ((w3.alloc (.cells #[.string (strOf t), .int .i64 (n : Int), .int .u8 0, .int .u8 0, .int .u8 0, .int .u8 0, .int .u8 0, .int .u8 0, .int .u8 0, .int .u8 0] 63)).heap[w.heap.size]? = some (.cells #[.string ⟨#[]⟩, .int .i64 0, .int .u8 0, .int .u8 0, .int .u8 0, .int .u8 0, .int .u8 0, .int .u8 0, .int .u8 0, .int .u8 0] 63 (0, 0))) := (Below.heap_alloc w3 _ _ (lt_of_block (hbx3.block HNE.out HS2.out))).trans (hbx3.block HNE.out HS2.out)
      have HWL : Hid (w.heap.size < w3.heap.size) := lt_of_block (hbx3.block HNE.out HS2.out)
      have HS3b : Hid (((w3.alloc (.cells #[.string (strOf t), .int .i64 (n : Int), .int .u8 0, .int .u8 0, .int .u8 0, .int .u8 0, .int .u8 0, .int .u8 0, .int .u8 0, .int .u8 0] 63)).setCell ⟨R, 1, none⟩ (.bool true)).heap[w.heap.size]? = some (.cells #[.string ⟨#[]⟩, .int .i64 0, .int .u8 0, .int .u8 0, .int .u8 0, .int .u8 0, .int .u8 0, .int .u8 0, .int .u8 0, .int .u8 0] 63 (0, 0))) := (heap_setCell_other _ _ _ _ HNE.out).trans HS3.out
      have HPN := Lib.hid hpn
      have HZ3 : Hid (l'.size ≤ l.size) := Nat.le_trans hz3 HZ.out
      have v0 := HR3.out.c0
      have v1 := HR3.out.c1
      have vz := HR3.out.fz 1
      have vz0 := HR3.out.fz 0
      clear hr3 hbx3 hz3 hpn HN x1 z1 y0 w0
      cases b' with
      | true =>
        have HQ : Hid (pSn (strN l) = none) := by
          rcases HPN.out with ⟨_, _, h⟩ | ⟨h, _, _⟩
          · cases h
          · rcases h with h | h
            · cases h
            · show _ = _
              unfold pSn
              rw [HP.out]
              simp only
              rw [h]
        have HTH : Hid (World.there ((w3.alloc (.cells #[.string (strOf t), .int .i64 (n : Int), .int .u8 0, .int .u8 0, .int .u8 0, .int .u8 0, .int .u8 0, .int .u8 0, .int .u8 0, .int .u8 0] 63)).setCell ⟨R, 1, none⟩ (.bool true)) w.heap.size 0 (#[.string ⟨#[]⟩, .int .i64 0, .int .u8 0, .int .u8 0, .int .u8 0, .int .u8 0, .int .u8 0, .int .u8 0, .int .u8 0, .int .u8 0] : Array Value).size) := there_row HS3b.out
        go_wp2_with (with_reducible refine wpList_store_mid rfl 63 (.tmp 2) (.tmp 56) rfl w.heap.size 0 #[.string ⟨#[]⟩, .int .i64 0, .int .u8 0, .int .u8 0, .int .u8 0, .int .u8 0, .int .u8 0, .int .u8 0, .int .u8 0, .int .u8 0] rfl rfl HTH.out HI.out HON.out ?_)
        (try simp only [Exit.inBlock, Exit.then])
        refine bodyPost_ret (results_row (p := 2) (ty := 63) rfl _ _ w.heap.size 63 #[.string ⟨#[]⟩, .int .i64 0, .int .u8 0, .int .u8 0, .int .u8 0, .int .u8 0, .int .u8 0, .int .u8 0, .int .u8 0, .int .u8 0] (0, 0) _ rfl (setCells_full HS3b.out #[.string ⟨#[]⟩, .int .i64 0, .int .u8 0, .int .u8 0, .int .u8 0, .int .u8 0, .int .u8 0, .int .u8 0, .int .u8 0, .int .u8 0] rfl) Tryd.underlying63 rfl HI.out) rfl ?_
        exact ⟨([], 0, [0, 0, 0, 0, 0, 0, 0, 0]), _, true, rfl, (heap_setCells_other _ _ (by have := HRL.out; omega) _ _ _).trans (HR3.out.set1 true), bx_setCellsB (HBX3.out.set 1 _) (Nat.le_refl _) _ 0, HZ3.out, .inr ⟨.inr HQ.out, rfl, rfl⟩⟩
      | false =>
        have hpn : pNum 4223371679 (strN D) = some (n, strN l') := by
          rcases HPN.out with ⟨_, h, _⟩ | ⟨_, _, h⟩
          · exact h
          · cases h
        by_cases h8 : l'.size < 8
        · have g8 : (l'.size : Int) < 8 := by omega
          have d8 : decide ((l'.size : Int) < 8) = true := decide_eq_true g8
          have HQ : Hid (pSn (strN l) = none) := by
            show _ = _
            unfold pSn
            rw [HP.out]
            simp only
            rw [hpn]
            simp only
            rw [if_pos (by rw [strN_length]; exact h8)]
          clear hpn h8
          have HTH : Hid (World.there ((w3.alloc (.cells #[.string (strOf t), .int .i64 (n : Int), .int .u8 0, .int .u8 0, .int .u8 0, .int .u8 0, .int .u8 0, .int .u8 0, .int .u8 0, .int .u8 0] 63)).setCell ⟨R, 1, none⟩ (.bool true)) w.heap.size 0 (#[.string ⟨#[]⟩, .int .i64 0, .int .u8 0, .int .u8 0, .int .u8 0, .int .u8 0, .int .u8 0, .int .u8 0, .int .u8 0, .int .u8 0] : Array Value).size) := there_row HS3b.out
          go_wp2_with (with_reducible refine wpList_store_mid rfl 63 (.tmp 2) (.tmp 56) rfl w.heap.size 0 #[.string ⟨#[]⟩, .int .i64 0, .int .u8 0, .int .u8 0, .int .u8 0, .int .u8 0, .int .u8 0, .int .u8 0, .int .u8 0, .int .u8 0] rfl rfl HTH.out HI.out HON.out ?_)
          (try simp only [Exit.inBlock, Exit.then])
          refine bodyPost_ret (results_row (p := 2) (ty := 63) rfl _ _ w.heap.size 63 #[.string ⟨#[]⟩, .int .i64 0, .int .u8 0, .int .u8 0, .int .u8 0, .int .u8 0, .int .u8 0, .int .u8 0, .int .u8 0, .int .u8 0] (0, 0) _ rfl (setCells_full HS3b.out #[.string ⟨#[]⟩, .int .i64 0, .int .u8 0, .int .u8 0, .int .u8 0, .int .u8 0, .int .u8 0, .int .u8 0, .int .u8 0, .int .u8 0] rfl) Tryd.underlying63 rfl HI.out) rfl ?_
          exact ⟨([], 0, [0, 0, 0, 0, 0, 0, 0, 0]), _, true, rfl, (heap_setCells_other _ _ (by have := HRL.out; omega) _ _ _).trans (HR3.out.set1 true), bx_setCellsB (HBX3.out.set 1 _) (Nat.le_refl _) _ 0, HZ3.out, .inr ⟨.inr HQ.out, rfl, rfl⟩⟩
        · have g8 : ¬ (l'.size : Int) < 8 := by omega
          have g8b : (8 : Int) ≤ (l'.size : Int) := by omega
          have d8 : decide ((l'.size : Int) < 8) = false := decide_eq_false g8
          obtain ⟨X, hX⟩ : ∃ X, l'.extract 0 8 = X := ⟨_, rfl⟩
          obtain ⟨E, hE⟩ : ∃ E, l'.extract 8 l'.size = E := ⟨_, rfl⟩
          have hXN : strN X = (strN l').take 8 := by rw [← hX, extract_strN']; simp
          have hEN : strN E = (strN l').drop 8 := by rw [← hE]; exact extract_strN l' 8
          have hXz : X.size = 8 := by rw [← strN_length, hXN, List.length_take, strN_length]; omega
          have hconv := fun (wx : World) => Lib.run_convert_string_bytes (P := Tryd.prog) wx 9 51 5 X Tryd.underlying9 Tryd.underlying51 Tryd.underlying5
          simp only [hXz] at hconv
          obtain ⟨q, hq⟩ := eight' (l := strN X) (by rw [strN_length]; exact hXz)
          obtain ⟨q0, q1, q2, q3, q4, q5, q6, q7⟩ := q
          have hqs : strN X = [q0, q1, q2, q3, q4, q5, q6, q7] := hq
          have C := crow_bytes (w3.alloc (.cells #[.string (strOf t), .int .i64 (n : Int), .int .u8 0, .int .u8 0, .int .u8 0, .int .u8 0, .int .u8 0, .int .u8 0, .int .u8 0, .int .u8 0] 63)) 5 X
          rw [World.size_alloc] at C
          have c0 := C.cell (k := 0) (by rw [hqs]; simp)
          have c1 := C.cell (k := 1) (by rw [hqs]; simp)
          have c2 := C.cell (k := 2) (by rw [hqs]; simp)
          have c3 := C.cell (k := 3) (by rw [hqs]; simp)
          have c4 := C.cell (k := 4) (by rw [hqs]; simp)
          have c5 := C.cell (k := 5) (by rw [hqs]; simp)
          have c6 := C.cell (k := 6) (by rw [hqs]; simp)
          have c7 := C.cell (k := 7) (by rw [hqs]; simp)
          simp only [hqs, List.getD_cons_zero, List.getD_cons_succ] at c0 c1 c2 c3 c4 c5 c6 c7
          have harr := fun (wx : World) (cap : Nat) => run_arrayAt (P := Tryd.prog) (w := wx) 27 5 8 (some ⟨w3.heap.size + 1, 0, none⟩) 8 cap Tryd.underlying27 (by decide)
          have HB5 : Hid (Below (w3.alloc (.cells #[.string (strOf t), .int .i64 (n : Int), .int .u8 0, .int .u8 0, .int .u8 0, .int .u8 0, .int .u8 0, .int .u8 0, .int .u8 0, .int .u8 0] 63)).heap.size (w3.alloc (.cells #[.string (strOf t), .int .i64 (n : Int), .int .u8 0, .int .u8 0, .int .u8 0, .int .u8 0, .int .u8 0, .int .u8 0, .int .u8 0, .int .u8 0] 63)) (Lib.bytesWorld (w3.alloc (.cells #[.string (strOf t), .int .i64 (n : Int), .int .u8 0, .int .u8 0, .int .u8 0, .int .u8 0, .int .u8 0, .int .u8 0, .int .u8 0, .int .u8 0] 63)) 5 X)) := bytesWorld_below (w := w3.alloc (.cells #[.string (strOf t), .int .i64 (n : Int), .int .u8 0, .int .u8 0, .int .u8 0, .int .u8 0, .int .u8 0, .int .u8 0, .int .u8 0, .int .u8 0] 63)) 5 X
          have HR5 := Lib.hid (HR3.out.below HB5.out)
          have HBX5 := Lib.hid (HBX3.out.step HB5.out)
          have HN5 : Hid ((Lib.bytesWorld (w3.alloc (.cells #[.string (strOf t), .int .i64 (n : Int), .int .u8 0, .int .u8 0, .int .u8 0, .int .u8 0, .int .u8 0, .int .u8 0, .int .u8 0, .int .u8 0] 63)) 5 X).heap[w3.heap.size]? = some (.cells #[.string (strOf t), .int .i64 (n : Int), .int .u8 0, .int .u8 0, .int .u8 0, .int .u8 0, .int .u8 0, .int .u8 0, .int .u8 0, .int .u8 0] 63 (0, 0))) := (HB5.out.block _ (by simp)).trans (heap_alloc_new w3 _)
          have HPNS := Lib.hid hpn
          have HQ8 := Lib.hid hqs
          clear hpn hq hqs C
          have HN3 : Hid (w.heap.size < w3.heap.size) := HWL.out
          have HTH8 : Hid (World.there (Lib.bytesWorld (w3.alloc (.cells #[.string (strOf t), .int .i64 (n : Int), .int .u8 0, .int .u8 0, .int .u8 0, .int .u8 0, .int .u8 0, .int .u8 0, .int .u8 0, .int .u8 0] 63)) 5 X) w3.heap.size 2 (#[.int .u8 (q0 : Int), .int .u8 (q1 : Int), .int .u8 (q2 : Int), .int .u8 (q3 : Int), .int .u8 (q4 : Int), .int .u8 (q5 : Int), .int .u8 (q6 : Int), .int .u8 (q7 : Int)] : Array Value).size) := there_off HN5.out
          have HI8 : Hid ((Tryd.prog.info? 27).map (·.size) = some (#[.int .u8 (q0 : Int), .int .u8 (q1 : Int), .int .u8 (q2 : Int), .int .u8 (q3 : Int), .int .u8 (q4 : Int), .int .u8 (q5 : Int), .int .u8 (q6 : Int), .int .u8 (q7 : Int)] : Array Value).size) := by show _ = _; kernel_rfl
          have HON8 : Hid ((#[.int .u8 (q0 : Int), .int .u8 (q1 : Int), .int .u8 (q2 : Int), .int .u8 (q3 : Int), .int .u8 (q4 : Int), .int .u8 (q5 : Int), .int .u8 (q6 : Int), .int .u8 (q7 : Int)] : Array Value).all (·.oneCell') = true) := by show _ = _; simp [Value.oneCell']
          have HN6 : Hid (((Lib.bytesWorld (w3.alloc (.cells #[.string (strOf t), .int .i64 (n : Int), .int .u8 0, .int .u8 0, .int .u8 0, .int .u8 0, .int .u8 0, .int .u8 0, .int .u8 0, .int .u8 0] 63)) 5 X).setCells w3.heap.size 2 [.int .u8 (q0 : Int), .int .u8 (q1 : Int), .int .u8 (q2 : Int), .int .u8 (q3 : Int), .int .u8 (q4 : Int), .int .u8 (q5 : Int), .int .u8 (q6 : Int), .int .u8 (q7 : Int)]).heap[w3.heap.size]? = some (.cells #[.string (strOf t), .int .i64 (n : Int), .int .u8 (q0 : Int), .int .u8 (q1 : Int), .int .u8 (q2 : Int), .int .u8 (q3 : Int), .int .u8 (q4 : Int), .int .u8 (q5 : Int), .int .u8 (q6 : Int), .int .u8 (q7 : Int)] 63 (0, 0))) := set8 _ _ _ _ _ _ _ _ HN5.out
          have HR6 : Hid (RSB ((Lib.bytesWorld (w3.alloc (.cells #[.string (strOf t), .int .i64 (n : Int), .int .u8 0, .int .u8 0, .int .u8 0, .int .u8 0, .int .u8 0, .int .u8 0, .int .u8 0, .int .u8 0] 63)) 5 X).setCells w3.heap.size 2 [.int .u8 (q0 : Int), .int .u8 (q1 : Int), .int .u8 (q2 : Int), .int .u8 (q3 : Int), .int .u8 (q4 : Int), .int .u8 (q5 : Int), .int .u8 (q6 : Int), .int .u8 (q7 : Int)]) R l' false) := (heap_setCells_other _ _ (by have := HRL.out; have := HN3.out; omega) _ _ _).trans HR5.out
          have HS5 : Hid ((Lib.bytesWorld (w3.alloc (.cells #[.string (strOf t), .int .i64 (n : Int), .int .u8 0, .int .u8 0, .int .u8 0, .int .u8 0, .int .u8 0, .int .u8 0, .int .u8 0, .int .u8 0] 63)) 5 X).heap[w.heap.size]? = some (.cells #[.string ⟨#[]⟩, .int .i64 0, .int .u8 0, .int .u8 0, .int .u8 0, .int .u8 0, .int .u8 0, .int .u8 0, .int .u8 0, .int .u8 0] 63 (0, 0))) := (HB5.out.block _ (lt_of_block HS3.out)).trans HS3.out
          have HS6 : Hid (((Lib.bytesWorld (w3.alloc (.cells #[.string (strOf t), .int .i64 (n : Int), .int .u8 0, .int .u8 0, .int .u8 0, .int .u8 0, .int .u8 0, .int .u8 0, .int .u8 0, .int .u8 0] 63)) 5 X).setCells w3.heap.size 2 [.int .u8 (q0 : Int), .int .u8 (q1 : Int), .int .u8 (q2 : Int), .int .u8 (q3 : Int), .int .u8 (q4 : Int), .int .u8 (q5 : Int), .int .u8 (q6 : Int), .int .u8 (q7 : Int)]).heap[w.heap.size]? = some (.cells #[.string ⟨#[]⟩, .int .i64 0, .int .u8 0, .int .u8 0, .int .u8 0, .int .u8 0, .int .u8 0, .int .u8 0, .int .u8 0, .int .u8 0] 63 (0, 0))) := (heap_setCells_other _ _ (by have := HN3.out; omega) _ _ _).trans HS5.out
          have HBX6 : Hid (BX R w ((Lib.bytesWorld (w3.alloc (.cells #[.string (strOf t), .int .i64 (n : Int), .int .u8 0, .int .u8 0, .int .u8 0, .int .u8 0, .int .u8 0, .int .u8 0, .int .u8 0, .int .u8 0] 63)) 5 X).setCells w3.heap.size 2 [.int .u8 (q0 : Int), .int .u8 (q1 : Int), .int .u8 (q2 : Int), .int .u8 (q3 : Int), .int .u8 (q4 : Int), .int .u8 (q5 : Int), .int .u8 (q6 : Int), .int .u8 (q7 : Int)])) := bx_setCellsB HBX5.out (Nat.le_of_lt HN3.out) _ 2
          have r0 := HR6.out.c0
          have rf := HR6.out.fz 0
          have HR7 := Lib.hid (HR6.out.set0 E)
          have HBX7 := Lib.hid (HBX6.out.set 0 (.string E))
          have HN7 : Hid ((((Lib.bytesWorld (w3.alloc (.cells #[.string (strOf t), .int .i64 (n : Int), .int .u8 0, .int .u8 0, .int .u8 0, .int .u8 0, .int .u8 0, .int .u8 0, .int .u8 0, .int .u8 0] 63)) 5 X).setCells w3.heap.size 2 [.int .u8 (q0 : Int), .int .u8 (q1 : Int), .int .u8 (q2 : Int), .int .u8 (q3 : Int), .int .u8 (q4 : Int), .int .u8 (q5 : Int), .int .u8 (q6 : Int), .int .u8 (q7 : Int)]).setCell ⟨R, 0, none⟩ (.string E)).heap[w3.heap.size]? = some (.cells #[.string (strOf t), .int .i64 (n : Int), .int .u8 (q0 : Int), .int .u8 (q1 : Int), .int .u8 (q2 : Int), .int .u8 (q3 : Int), .int .u8 (q4 : Int), .int .u8 (q5 : Int), .int .u8 (q6 : Int), .int .u8 (q7 : Int)] 63 (0, 0))) := (heap_setCell_other _ ⟨R, 0, none⟩ _ _ (by have := HRL.out; have := HN3.out; show w3.heap.size ≠ R; omega)).trans HN6.out
          have HS7 : Hid ((((Lib.bytesWorld (w3.alloc (.cells #[.string (strOf t), .int .i64 (n : Int), .int .u8 0, .int .u8 0, .int .u8 0, .int .u8 0, .int .u8 0, .int .u8 0, .int .u8 0, .int .u8 0] 63)) 5 X).setCells w3.heap.size 2 [.int .u8 (q0 : Int), .int .u8 (q1 : Int), .int .u8 (q2 : Int), .int .u8 (q3 : Int), .int .u8 (q4 : Int), .int .u8 (q5 : Int), .int .u8 (q6 : Int), .int .u8 (q7 : Int)]).setCell ⟨R, 0, none⟩ (.string E)).heap[w.heap.size]? = some (.cells #[.string ⟨#[]⟩, .int .i64 0, .int .u8 0, .int .u8 0, .int .u8 0, .int .u8 0, .int .u8 0, .int .u8 0, .int .u8 0, .int .u8 0] 63 (0, 0))) := (heap_setCell_other _ ⟨R, 0, none⟩ _ _ HNE.out).trans HS6.out
          have HTHF : Hid (World.there (((Lib.bytesWorld (w3.alloc (.cells #[.string (strOf t), .int .i64 (n : Int), .int .u8 0, .int .u8 0, .int .u8 0, .int .u8 0, .int .u8 0, .int .u8 0, .int .u8 0, .int .u8 0] 63)) 5 X).setCells w3.heap.size 2 [.int .u8 (q0 : Int), .int .u8 (q1 : Int), .int .u8 (q2 : Int), .int .u8 (q3 : Int), .int .u8 (q4 : Int), .int .u8 (q5 : Int), .int .u8 (q6 : Int), .int .u8 (q7 : Int)]).setCell ⟨R, 0, none⟩ (.string E)) w.heap.size 0 (#[.string (strOf t), .int .i64 (n : Int), .int .u8 (q0 : Int), .int .u8 (q1 : Int), .int .u8 (q2 : Int), .int .u8 (q3 : Int), .int .u8 (q4 : Int), .int .u8 (q5 : Int), .int .u8 (q6 : Int), .int .u8 (q7 : Int)] : Array Value).size) := (by have := there_row HS7.out; exact this)
          have HIT : Hid ((Tryd.prog.info? 63).map (·.size) = some (#[.string (strOf t), .int .i64 (n : Int), .int .u8 (q0 : Int), .int .u8 (q1 : Int), .int .u8 (q2 : Int), .int .u8 (q3 : Int), .int .u8 (q4 : Int), .int .u8 (q5 : Int), .int .u8 (q6 : Int), .int .u8 (q7 : Int)] : Array Value).size) := by show _ = _; kernel_rfl
          have HONT : Hid ((#[.string (strOf t), .int .i64 (n : Int), .int .u8 (q0 : Int), .int .u8 (q1 : Int), .int .u8 (q2 : Int), .int .u8 (q3 : Int), .int .u8 (q4 : Int), .int .u8 (q5 : Int), .int .u8 (q6 : Int), .int .u8 (q7 : Int)] : Array Value).all (·.oneCell') = true) := by show _ = _; simp [Value.oneCell']
          have y0 := cell_of_row _ w3.heap.size 0 _ _ _ HN7.out
          have y1 := cell_of_row _ w3.heap.size 1 _ _ _ HN7.out
          have y2 := cell_of_row _ w3.heap.size 2 _ _ _ HN7.out
          have y3 := cell_of_row _ w3.heap.size 3 _ _ _ HN7.out
          have y4 := cell_of_row _ w3.heap.size 4 _ _ _ HN7.out
          have y5 := cell_of_row _ w3.heap.size 5 _ _ _ HN7.out
          have y6 := cell_of_row _ w3.heap.size 6 _ _ _ HN7.out
          have y7 := cell_of_row _ w3.heap.size 7 _ _ _ HN7.out
          have y8 := cell_of_row _ w3.heap.size 8 _ _ _ HN7.out
          have y9 := cell_of_row _ w3.heap.size 9 _ _ _ HN7.out
          simp only [List.getElem?_toArray, List.getElem?_cons_zero, List.getElem?_cons_succ] at y0 y1 y2 y3 y4 y5 y6 y7 y8 y9
          go_wp2_with (first | (with_reducible refine wpList_store_mid rfl 27 (.tmp 65) (.tmp 64) rfl w3.heap.size 2 #[.int .u8 (q0 : Int), .int .u8 (q1 : Int), .int .u8 (q2 : Int), .int .u8 (q3 : Int), .int .u8 (q4 : Int), .int .u8 (q5 : Int), .int .u8 (q6 : Int), .int .u8 (q7 : Int)] rfl rfl HTH8.out HI8.out HON8.out ?_) | (with_reducible refine wpList_store_mid rfl 63 (.tmp 2) (.tmp 74) rfl w.heap.size 0 #[.string (strOf t), .int .i64 (n : Int), .int .u8 (q0 : Int), .int .u8 (q1 : Int), .int .u8 (q2 : Int), .int .u8 (q3 : Int), .int .u8 (q4 : Int), .int .u8 (q5 : Int), .int .u8 (q6 : Int), .int .u8 (q7 : Int)] rfl rfl HTHF.out HIT.out HONT.out ?_))
          (try simp only [Exit.inBlock, Exit.then])
          refine bodyPost_ret (results_row (p := 2) (ty := 63) rfl _ _ w.heap.size 63 #[.string (strOf t), .int .i64 (n : Int), .int .u8 (q0 : Int), .int .u8 (q1 : Int), .int .u8 (q2 : Int), .int .u8 (q3 : Int), .int .u8 (q4 : Int), .int .u8 (q5 : Int), .int .u8 (q6 : Int), .int .u8 (q7 : Int)] (0, 0) _ rfl (setCells_full HS7.out #[.string (strOf t), .int .i64 (n : Int), .int .u8 (q0 : Int), .int .u8 (q1 : Int), .int .u8 (q2 : Int), .int .u8 (q3 : Int), .int .u8 (q4 : Int), .int .u8 (q5 : Int), .int .u8 (q6 : Int), .int .u8 (q7 : Int)] rfl) Tryd.underlying63 rfl HIT.out) rfl ?_
          refine ⟨(t, n, [q0, q1, q2, q3, q4, q5, q6, q7]), E, false, rfl, (heap_setCells_other _ _ (by have := HRL.out; omega) _ _ _).trans HR7.out, bx_setCellsB HBX7.out (Nat.le_refl _) _ 0, ?_, .inl ⟨rfl, ?_, rfl⟩⟩
          · rw [← strN_length, hEN, List.length_drop, strN_length]; have := HZ3.out; omega
          · unfold pSn
            rw [HP.out]
            simp only
            rw [HPNS.out]
            simp only
            rw [if_neg (by rw [strN_length]; omega), ← hXN, HQ8.out, hEN]
    · have f1 : ((c : Int) != 0) = true := by simp; omega
      have HP : Hid (pSn (strN l) = none) := by
        show _ = _
        unfold pSn
        rw [(getT_end hgt).2 hc]
      have HTH : Hid (World.there (w1.setCell ⟨R, 1, none⟩ (.bool true)) w.heap.size 0 (#[.string ⟨#[]⟩, .int .i64 0, .int .u8 0, .int .u8 0, .int .u8 0, .int .u8 0, .int .u8 0, .int .u8 0, .int .u8 0, .int .u8 0] : Array Value).size) := there_row HS1b.out
      go_wp2_with (with_reducible refine wpList_store_mid rfl 63 (.tmp 2) (.tmp 27) rfl w.heap.size 0 #[.string ⟨#[]⟩, .int .i64 0, .int .u8 0, .int .u8 0, .int .u8 0, .int .u8 0, .int .u8 0, .int .u8 0, .int .u8 0, .int .u8 0] rfl rfl HTH.out HI.out HON.out ?_)
      (try simp only [Exit.inBlock, Exit.then])
      refine bodyPost_ret (results_row (p := 2) (ty := 63) rfl _ _ w.heap.size 63 #[.string ⟨#[]⟩, .int .i64 0, .int .u8 0, .int .u8 0, .int .u8 0, .int .u8 0, .int .u8 0, .int .u8 0, .int .u8 0, .int .u8 0] (0, 0) _ rfl (setCells_full HS1b.out #[.string ⟨#[]⟩, .int .i64 0, .int .u8 0, .int .u8 0, .int .u8 0, .int .u8 0, .int .u8 0, .int .u8 0, .int .u8 0, .int .u8 0] rfl) Tryd.underlying63 rfl HI.out) rfl ?_
      exact ⟨([], 0, [0, 0, 0, 0, 0, 0, 0, 0]), _, true, rfl, (heap_setCells_other _ _ (by have := HRL.out; omega) _ _ _).trans (HR1.out.set1 true), bx_setCellsB ((BX.of_below HB1.out).set 1 _) (Nat.le_refl _) _ 0, (Nat.le_refl _), .inr ⟨.inr HP.out, rfl, rfl⟩⟩
end Go.Proofs.YtinjnclpiiohcaaDoor
