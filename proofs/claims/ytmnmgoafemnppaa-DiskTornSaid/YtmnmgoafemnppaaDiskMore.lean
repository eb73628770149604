/- The disk's Rename, Remove, Sync, New. -/
import Derived.Test.YtmnmgoafemnppaaDiskWrite
import Derived.Test.YtmnmgoafemnppaaShelf
import Derived.Laws.IdiomMaps
namespace Go.Proofs.Ytmnmgoafemnppaa
open Go.RowKit Plain Go.Maps
set_option linter.unusedVariables false
set_option linter.unusedSimpArgs false
theorem clone_any {w : World} {b n : Nat} {D : DM} (h : SM w b n D) : Calls Try.prog 22 #[.map (some b)] w fun e w' => e = .returned (.map (some w.heap.size)) ∧ SM w' w.heap.size n D ∧ SM w' b n D ∧ Below w.heap.size w w' :=
  AnyW.maps_Clone_owns Try.cloneM 9 (plainElem Try.prog 9) b n D w h
def DREnd (base p N : Nat) (d : Dst) (a b : ByteArray) (w : World) (e : Ending) (w' : World) : Prop := ∃ (c : Int) (d' : Dst), e = .returned (.int .i64 c) ∧ RnStep d (bT a) (bT b) c d' ∧ DS base p (N + 1) d' w' ∧ FR base w w'
set_option maxRecDepth 100000 in
set_option maxHeartbeats 4000000 in
theorem drename_any {base p N : Nat} {d : Dst} {w : World} (a b : ByteArray) (ha : a.size ≤ 9223372036854775807) (hb : b.size ≤ 9223372036854775807) (hN : N ≤ 4398046511104) (h : DS base p N d w) : Calls Try.prog 24 #[.pointer (some ⟨p, 0, none⟩), .string a, .string b] w (DREnd base p N d a b w) := by
  have HBG := Lib.hid (begin_any h)
  have HRA := Lib.hid fun (W : World) => right_any a W ha
  have HRB := Lib.hid fun (W : World) => right_any b W hb
  have HN := Lib.hid hN
  have HSZ : Hid (a.size ≤ maxLen ∧ b.size ≤ maxLen) := Lib.hid ⟨ha, hb⟩
  clear h
  go_enter Try.func24, Try.ntmps24
  go_wp2_with fail
  refine HBG.out.mono ?_
  rintro e w1 ⟨hfr, ⟨hd, rfl, hds⟩ | ⟨hd, rfl, hds⟩⟩
  · have HEND : Hid (DREnd base p N d a b w (.returned (.int .i64 17)) w1) := Lib.hid ⟨17, d, rfl, .inl ⟨hd, rfl, rfl⟩, hds.mono (Nat.le_succ _), hfr⟩
    clear hfr hd hds HBG HRA HRB
    go_wp2_with fail
    go_ret
    exact HEND.out
  have HBAD : Hid (∀ c : Int, c ≠ 0 → c ≠ 17 → DREnd base p N d a b w (.returned (.int .i64 c)) w1) := Lib.hid fun c h1 h2 => ⟨c, d.dec, rfl, .inr ⟨hd, .inl ⟨h1, h2, rfl⟩⟩, hds.mono (Nat.le_succ _), hfr⟩
  have HD := Lib.hid hd
  have HF1 := Lib.hid hfr
  have HDS1 := Lib.hid hds
  obtain ⟨f, g, nf, ng, DF, DG, ca, cc, hx⟩ := hds
  obtain ⟨c0, c1, c2, c3, c4, c5⟩ := drow_cells hx.1
  have hlk := sm_look hx.2.1 a HSZ.out.1
  have HDO := Lib.hid (do_any (.rn (bT a) (bT b)) ⟨by rw [bT_length]; exact HSZ.out.1, by rw [bT_length]; exact HSZ.out.2⟩ HN.out HDS1.out)
  rw [show chV (.rn (bT a) (bT b)) = .iface 71 (.agg #[.string a, .string b]) by simp only [chV, tB_bT]] at HDO
  clear hfr hd HBG hx
  go_wp2_with fail
  refine (HRA.out w1).mono ?_
  rintro e w2 ⟨rfl, hw2⟩
  subst hw2
  clear HRA
  cases hr : rightB a with
  | false =>
    clear hr HRB HDO
    go_wp2_with fail
    go_ret
    exact HBAD.out 8 (by decide) (by decide)
  | true =>
    clear hr
    go_wp2_with fail
    refine (HRB.out w2).mono ?_
    rintro e w3 ⟨rfl, hw3⟩
    subst hw3
    clear HRB
    cases hr : rightB b with
    | false =>
      clear hr HDO
      go_wp2_with fail
      go_ret
      exact HBAD.out 8 (by decide) (by decide)
    | true =>
      clear hr
      cases hl : lookM DF (bT a) with
      | none =>
        rw [hl] at hlk
        simp only [Option.getD_none, Option.isSome_none] at hlk
        clear hl HDO
        go_wp2_with fail
        go_ret
        exact HBAD.out 9 (by decide) (by decide)
      | some v =>
        rw [hl] at hlk
        simp only [Option.getD_some, Option.isSome_some] at hlk
        clear hl
        go_wp2_with fail
        refine HDO.out.mono ?_
        rintro e w9 ⟨hf9, rfl, hd9⟩
        have HEND : Hid (DREnd base p N d a b w (.returned (.int .i64 0)) w9) := Lib.hid ⟨0, d.dec.act (.rn (bT a) (bT b)), rfl, .inr ⟨HD.out, .inr ⟨rfl, rfl⟩⟩, hd9, HF1.out.trans hf9⟩
        clear hf9 hd9 HDO
        go_wp2_with fail
        go_ret
        exact HEND.out
def DMEnd (base p N : Nat) (d : Dst) (a : ByteArray) (w : World) (e : Ending) (w' : World) : Prop := ∃ (c : Int) (d' : Dst), e = .returned (.int .i64 c) ∧ RmStep d (bT a) c d' ∧ DS base p (N + 1) d' w' ∧ FR base w w'
set_option maxRecDepth 100000 in
set_option maxHeartbeats 4000000 in
theorem dremove_any {base p N : Nat} {d : Dst} {w : World} (a : ByteArray) (ha : a.size ≤ 9223372036854775807) (hN : N ≤ 4398046511104) (h : DS base p N d w) : Calls Try.prog 25 #[.pointer (some ⟨p, 0, none⟩), .string a] w (DMEnd base p N d a w) := by
  have HBG := Lib.hid (begin_any h)
  have HRA := Lib.hid fun (W : World) => right_any a W ha
  have HN := Lib.hid hN
  have HSZ : Hid (a.size ≤ maxLen) := Lib.hid ha
  clear h
  go_enter Try.func25, Try.ntmps25
  go_wp2_with fail
  refine HBG.out.mono ?_
  rintro e w1 ⟨hfr, ⟨hd, rfl, hds⟩ | ⟨hd, rfl, hds⟩⟩
  · have HEND : Hid (DMEnd base p N d a w (.returned (.int .i64 17)) w1) := Lib.hid ⟨17, d, rfl, .inl ⟨hd, rfl, rfl⟩, hds.mono (Nat.le_succ _), hfr⟩
    clear hfr hd hds HBG HRA
    go_wp2_with fail
    go_ret
    exact HEND.out
  have HBAD : Hid (∀ c : Int, c ≠ 0 → c ≠ 17 → DMEnd base p N d a w (.returned (.int .i64 c)) w1) := Lib.hid fun c h1 h2 => ⟨c, d.dec, rfl, .inr ⟨hd, .inl ⟨h1, h2, rfl⟩⟩, hds.mono (Nat.le_succ _), hfr⟩
  have HD := Lib.hid hd
  have HF1 := Lib.hid hfr
  have HDS1 := Lib.hid hds
  obtain ⟨f, g, nf, ng, DF, DG, ca, cc, hx⟩ := hds
  obtain ⟨c0, c1, c2, c3, c4, c5⟩ := drow_cells hx.1
  have hlk := sm_look hx.2.1 a HSZ.out
  have HDO := Lib.hid (do_any (.rm (bT a)) (by show (bT a).length ≤ maxLen; rw [bT_length]; exact HSZ.out) HN.out HDS1.out)
  rw [show chV (.rm (bT a)) = .iface 73 (.agg #[.string a]) by simp only [chV, tB_bT]] at HDO
  clear hfr hd HBG hx
  go_wp2_with fail
  refine (HRA.out w1).mono ?_
  rintro e w2 ⟨rfl, hw2⟩
  subst hw2
  clear HRA
  cases hr : rightB a with
  | false =>
    clear hr HDO
    go_wp2_with fail
    go_ret
    exact HBAD.out 8 (by decide) (by decide)
  | true =>
    clear hr
    cases hl : lookM DF (bT a) with
    | none =>
      rw [hl] at hlk
      simp only [Option.getD_none, Option.isSome_none] at hlk
      clear hl HDO
      go_wp2_with fail
      go_ret
      exact HBAD.out 9 (by decide) (by decide)
    | some v =>
      rw [hl] at hlk
      simp only [Option.getD_some, Option.isSome_some] at hlk
      clear hl
      go_wp2_with fail
      refine HDO.out.mono ?_
      rintro e w9 ⟨hf9, rfl, hd9⟩
      have HEND : Hid (DMEnd base p N d a w (.returned (.int .i64 0)) w9) := Lib.hid ⟨0, d.dec.act (.rm (bT a)), rfl, .inr ⟨HD.out, .inr ⟨rfl, rfl⟩⟩, hd9, HF1.out.trans hf9⟩
      clear hf9 hd9 HDO
      go_wp2_with fail
      go_ret
      exact HEND.out
def SyEnd (base p N : Nat) (d : Dst) (w : World) (e : Ending) (w' : World) : Prop := ∃ (c : Int) (d' : Dst), e = .returned (.int .i64 c) ∧ SyStep d c d' ∧ DS base p N d' w' ∧ FR base w w'
/-- the safe files taken anew, the changes dropped -/
theorem sync_st {base p N : Nat} {d : Dst} {w w1 : World} {f g nf ng : Nat} {DF DG : DM} {ca : Option Addr} {cc : Nat} (h : DSX base p N d w f g nf ng DF DG ca cc) (hm : SM w1 w.heap.size nf DF) (hb : Below w.heap.size w w1) :
    DRow w1 p d.room f g ca d.C.length cc d.fu d.lf ∧ DRow (w1.setCell ⟨p, 2, none⟩ (.map (some w.heap.size))) p d.room f w.heap.size ca d.C.length cc d.fu d.lf ∧ DS base p N d.sync ((w1.setCell ⟨p, 2, none⟩ (.map (some w.heap.size))).setCell ⟨p, 3, none⟩ (.slice none 0 0)) ∧ FR base w ((w1.setCell ⟨p, 2, none⟩ (.map (some w.heap.size))).setCell ⟨p, 3, none⟩ (.slice none 0 0)) := by
  have h1 := h.below hb
  have hpp := lt_of_block h.1
  have hff := h.2.1.lt
  have r1 : DRow (w1.setCell ⟨p, 2, none⟩ (.map (some w.heap.size))) p d.room f w.heap.size ca d.C.length cc d.fu d.lf := row_setD h1.1 2 _
  have r2 : DRow ((w1.setCell ⟨p, 2, none⟩ (.map (some w.heap.size))).setCell ⟨p, 3, none⟩ (.slice none 0 0)) p d.room f w.heap.size none 0 0 d.fu d.lf := row_setD r1 3 _
  have hfp : f ≠ p := fun e => by
    subst e
    obtain ⟨es, clock, hb, _⟩ := h.2.1
    have h1 : w.heap[f]? = some (Obj.cells _ _ _) := h.1
    rw [hb] at h1; injection h1 with h1; cases h1
  have hgp : w.heap.size ≠ p := by omega
  refine ⟨h1.1, r1, ⟨f, w.heap.size, nf, nf, DF, DF, none, 0, r2, SM.of_block (SM.of_block h1.2.1 (Below.heap_setCell _ _ _ _ hfp)) (Below.heap_setCell _ _ _ _ hfp), SM.of_block (SM.of_block hm (Below.heap_setCell _ _ _ _ hgp)) (Below.heap_setCell _ _ _ _ hgp), by omega, ⟨h.2.2.2.2.1.1, h.2.2.2.2.1.2.1, by have := h.2.2.2.2.1.1; omega⟩, World.ownsRow_nil _ _ _ _, h.2.2.2.2.2.2.1, h.2.2.2.2.2.2.1, ⟨h.2.2.2.2.2.2.2.2.1.1, h.2.2.2.2.2.2.2.2.1.1⟩, h.2.2.2.2.2.2.2.2.2.1, fun c hc => by cases hc⟩, ?_⟩
  exact (FR.of_below hb (by have := h.2.2.2.2.1.1; omega)).trans (FR.trans ⟨(Below.refl base w1).setCell (p := ⟨p, 2, none⟩) h.2.2.2.2.1.1 _, FrT.of_cells h1.1 (.inl rfl) 2 _⟩ ⟨(Below.refl base _).setCell (p := ⟨p, 3, none⟩) h.2.2.2.2.1.1 _, FrT.of_cells r1 (.inl rfl) 3 _⟩)
set_option maxRecDepth 100000 in
set_option maxHeartbeats 4000000 in
theorem dsync_any {base p N : Nat} {d : Dst} {w : World} (h : DS base p N d w) : Calls Try.prog 10 #[.pointer (some ⟨p, 0, none⟩)] w (SyEnd base p N d w) := by
  have HBG := Lib.hid (begin_any h)
  clear h
  go_enter Try.func10, Try.ntmps10
  go_wp2_with fail
  refine HBG.out.mono ?_
  rintro e w1 ⟨hfr, ⟨hd, rfl, hds⟩ | ⟨hd, rfl, hds⟩⟩
  · have HEND : Hid (SyEnd base p N d w (.returned (.int .i64 17)) w1) := Lib.hid ⟨17, d, rfl, .inl ⟨hd, rfl, rfl⟩, hds, hfr⟩
    clear hfr hd hds HBG
    go_wp2_with fail
    go_ret
    exact HEND.out
  have HD := Lib.hid hd
  have HF1 := Lib.hid hfr
  obtain ⟨f, g, nf, ng, DF, DG, ca, cc, hx⟩ := hds
  obtain ⟨c0, c1, c2, c3, c4, c5⟩ := drow_cells hx.1
  have HX := Lib.hid hx
  have HCL := Lib.hid (clone_any hx.2.1)
  clear hfr hd HBG hx
  go_wp2_with fail
  refine HCL.out.mono ?_
  rintro e w2 ⟨rfl, hm2, hm3, hb2⟩
  obtain ⟨q1, q2, q3, q4⟩ := sync_st HX.out hm2 hb2
  have HDS := Lib.hid q3
  have HFR := Lib.hid (HF1.out.trans q4)
  obtain ⟨e0, e1, e2, e3, e4, e5⟩ := drow_cells q1
  obtain ⟨f0, f1, f2, f3, f4, f5⟩ := drow_cells q2
  have z2 := frozen_of_row _ p 2 _ _ q1
  have z3 := frozen_of_row _ p 3 _ _ q2
  clear hm2 hm3 hb2 q1 q2 q3 q4 HCL c0 c1 c2 c3 c4 c5
  generalize w1.heap.size = GB at *
  go_wp2_with fail
  go_ret
  exact ⟨0, d.dec.sync, rfl, .inr ⟨HD.out, rfl, rfl⟩, HDS.out, HFR.out⟩
def NwEnd (r : Int) (w : World) (e : Ending) (w' : World) : Prop := e = .returned (.tuple #[.pointer (some ⟨w.heap.size + 2, 0, none⟩), .int .i64 0]) ∧ DS w.heap.size (w.heap.size + 2) 0 (Dst.new r) w' ∧ Below w.heap.size w w'
set_option maxRecDepth 100000 in
set_option maxHeartbeats 2000000 in
theorem dnew_any (r : Int) (h0 : 0 ≤ r) (h1 : r ≤ 1099511627776) (w : World) : Calls Try.prog 19 #[.int .i64 r] w (NwEnd r w) := by
  have hmm := @run_makeMap Try.prog
  have g1 : ¬ r < 0 := by omega
  have g2 : ¬ 1099511627776 < r := by omega
  have HDS : Hid (NwEnd r w (.returned (.tuple #[.pointer (some ⟨w.heap.size + 2, 0, none⟩), .int .i64 0])) (((w.alloc (.map #[] 0)).alloc (.map #[] 0)).alloc (.cells #[.int .i64 r, .map (some w.heap.size), .map (some (w.heap.size + 1)), .slice none 0 0, .bool false, .int .i64 0] 51))) := Lib.hid (by
    have b1 : Below w.heap.size w (w.alloc (.map #[] 0)) := (Below.refl _ _).alloc (Nat.le_refl _) _
    have b2 : Below (w.alloc (.map #[] 0)).heap.size (w.alloc (.map #[] 0)) ((w.alloc (.map #[] 0)).alloc (.map #[] 0)) := (Below.refl _ _).alloc (Nat.le_refl _) _
    have b3 : Below ((w.alloc (.map #[] 0)).alloc (.map #[] 0)).heap.size ((w.alloc (.map #[] 0)).alloc (.map #[] 0)) (((w.alloc (.map #[] 0)).alloc (.map #[] 0)).alloc (.cells #[.int .i64 r, .map (some w.heap.size), .map (some (w.heap.size + 1)), .slice none 0 0, .bool false, .int .i64 0] 51)) := (Below.refl _ _).alloc (Nat.le_refl _) _
    have m1 : SM (w.alloc (.map #[] 0)) w.heap.size 0 (.map []) := World.ownsMap_made w _ _ _
    have m2 : SM ((w.alloc (.map #[] 0)).alloc (.map #[] 0)) (w.heap.size + 1) 0 (.map []) := by
      have := World.ownsMap_made (H := Unit) (w.alloc (.map #[] 0)) Try.prog 9 (plainElem Try.prog 9)
      simpa using this
    have m1' := SM.of_block m1 (b2.block _ m1.lt)
    have hr := heap_alloc_new ((w.alloc (.map #[] 0)).alloc (.map #[] 0)) (.cells #[.int .i64 r, .map (some w.heap.size), .map (some (w.heap.size + 1)), .slice none 0 0, .bool false, .int .i64 0] 51)
    have hsz : ((w.alloc (.map #[] 0)).alloc (.map #[] 0)).heap.size = w.heap.size + 2 := by simp
    rw [hsz] at hr
    refine ⟨rfl, ⟨w.heap.size, w.heap.size + 1, 0, 0, .map [], .map [], none, 0, hr, SM.of_block m1' (b3.block _ m1'.lt), SM.of_block m2 (b3.block _ m2.lt), by omega, ⟨by omega, by omega, by omega⟩, World.ownsRow_nil _ _ _ _, lookM_empty.symm, lookM_empty.symm, ⟨Nat.le_refl _, Nat.le_refl _⟩, ⟨by show (0 : Int) ≤ 0; omega, by show (0 : Int) ≤ _; omega⟩, fun c hc => by cases hc⟩, Below.step (Below.step b1 b2) b3⟩)
  go_enter Try.func19, Try.ntmps19
  go_wp2_with fail
  go_ret2
  exact HDS.out
end Go.Proofs.Ytmnmgoafemnppaa
