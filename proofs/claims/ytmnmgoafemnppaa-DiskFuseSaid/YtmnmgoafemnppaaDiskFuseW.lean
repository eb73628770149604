/- The walk of DiskFuse. -/
import Derived.Test.YtmnmgoafemnppaaDiskPlayed
namespace Go.Proofs.Ytmnmgoafemnppaa
open Go.RowKit Plain Go.Maps
set_option linter.unusedVariables false
set_option linter.unusedSimpArgs false
theorem fuse_down {d : Dst} (h : d.fu = true) : d.down = decide (d.lf = 0) := by unfold Dst.down; rw [h]; rfl
set_option maxRecDepth 100000 in
set_option maxHeartbeats 8000000 in
theorem diskFuse_any (a : Option Addr) (cap : Nat) (L : List MD) (b : Option Addr) (cb : Nat) (M : List MD) (n : Int) (w : World) (h : SAt 5 mdC w a L) (hm : ∀ m ∈ L, MdOk w m) (hl : L.length ≤ 1960000000000) (h2 : SAt 5 mdC w b M) (hm2 : ∀ m ∈ M, MdOk w m) (hl2 : M.length ≤ 1960000000000) (hn : n ≤ 9223372036854775807) :
    Calls Try.prog 5 #[.slice a L.length cap, .slice b M.length cb, .int .i64 n] w fun e w' => e = .returned (.bool true) ∧ Below w.heap.size w w' := by
  have HST := Lib.hid fun (W : World) => stored_any W
  have HPL := Lib.hid fun (W : World) (hb : Below w.heap.size w W) => played_any a cap L h hm (by omega) hb
  have HS := Lib.hid h2
  have HM := Lib.hid hm2
  have HLN : Hid (L.length ≤ 1960000000000 ∧ M.length ≤ 1960000000000) := Lib.hid ⟨hl, hl2⟩
  have HDE := Lib.hid fun (m : MD) (p N : Nat) (d : Dst) (W : World) (h1 : MdOk w m) (h2 : Below w.heap.size w W) (h3 : N ≤ 4398046511104) (h4 : DS w.heap.size p N d W) => deed_any m h1 h2 h3 h4
  have hl63 : (M.length : Int) ≤ 1960000000000 := by omega
  clear h hm h2 hm2
  by_cases hneg : n < 0
  · clear HPL HDE HS HM
    go_enter Try.func5, Try.ntmps5
    go_wp2_with fail
    refine (HST.out w).mono ?_
    rintro e w1 ⟨rfl, hb⟩
    have HB1 := Lib.hid hb
    clear hb
    go_wp2_with fail
    refine (HST.out w1).mono ?_
    rintro e w2 ⟨rfl, hb⟩
    have HB2 := Lib.hid (Below.step HB1.out hb)
    clear hb
    go_wp2_with fail
    go_ret
    exact ⟨rfl, HB2.out⟩
  have hn0 : 0 ≤ n := by omega
  go_enter Try.func5, Try.ntmps5
  go_wp2_with fail
  refine (HST.out w).mono ?_
  rintro e w1 ⟨rfl, hb⟩
  have HB1 := Lib.hid hb
  clear hb HST
  go_wp2_with fail
  refine (HPL.out w1 HB1.out).mono ?_
  rintro e w2 ⟨p, d, rfl, hds, _, hf⟩
  have HD2 := Lib.hid hds
  have HB2 := Lib.hid (HB1.out.trans hf.1)
  clear hds hf HPL HB1
  have HFU := Lib.hid (fuse_any n hn HD2.out)
  have HFF : Hid ((d.fuse n).fu = true ∧ (d.fuse n).lf = n) := Lib.hid ⟨decide_eq_true hn0, by show max n 0 = n; omega⟩
  clear hneg
  go_wp2_with fail
  refine HFU.out.mono ?_
  rintro e w3 ⟨hf, rfl, hds⟩
  have HD3 := Lib.hid hds
  have HB3 := Lib.hid (HB2.out.trans hf.1)
  clear hds hf HFU HB2 HD2
  go_wp2_with fail
  go_loopw [2, 28] (fun nv iv wr => ∃ (i : Nat) (x : Dst) (q : Int), i ≤ M.length ∧ iv = .int .i64 (i : Int) ∧ nv = .int .i64 q ∧ Hid (0 ≤ q ∧ q ≤ 9223372036854775807) ∧ Hid (x.fu = true ∧ x.lf = q) ∧ Hid (DS w.heap.size p (L.length + i) x wr) ∧ Hid (Below w.heap.size w wr)) (fun _ iv _ => M.length - (intOf iv).toNat)
  case atStart => exact ⟨0, d.fuse n, n, by omega, rfl, rfl, Lib.hid ⟨hn0, hn⟩, HFF, HD3, HB3⟩
  case round =>
    obtain ⟨i, x, q, hi, rfl, rfl, HQ, HX, HD, HB⟩ := hrel
    clear HFF HD3 HB3 hn0 hn
    by_cases hlt : i < M.length
    · have m1 : (i : Int) < (M.length : Int) := by omega
      obtain ⟨g, off, rfl, hg, hr⟩ := (HS.out.below HB.out) i hlt
      have y0 := hr 0 _ rfl
      have y1 := hr 1 _ rfl
      have y2 := hr 2 _ rfl
      have y3 := hr 3 _ rfl
      have y4 := hr 4 _ rfl
      simp only [Nat.add_zero] at y0
      have HMO := Lib.hid (HM.out _ (List.getElem_mem hlt))
      have HIL : Hid (L.length + i ≤ 4398046511104) := Lib.hid (by have := HLN.out; omega)
      have i9 : (i : Int) < 1960000000000 := by omega
      clear hg hr
      generalize M[i] = m at *
      obtain ⟨k, nm, tx, nn, ka, kc, K⟩ := m
      have HAL := Lib.hid ((Below.refl wr.heap.size wr).alloc (Nat.le_refl _) (.cells #[.int .i64 k, .string nm, .string tx, .int .i64 nn, .slice ka K.length kc] 37))
      have HDA := Lib.hid (HD.out.below HAL.out)
      have HBA := Lib.hid (Below.step HB.out HAL.out)
      by_cases hk1 : k < 1
      · go_wp2_with fail
        go_roundw
        case rel => exact ⟨i + 1, x, q, by omega, by go_num, rfl, HQ, HX, Lib.hid (HDA.out.mono (by omega)), HBA⟩
        case measure => simp [intOf]; omega
      by_cases hk4 : 4 < k
      · go_wp2_with fail
        go_roundw
        case rel => exact ⟨i + 1, x, q, by omega, by go_num, rfl, HQ, HX, Lib.hid (HDA.out.mono (by omega)), HBA⟩
        case measure => simp [intOf]; omega
      have HCALL := Lib.hid (HDE.out (k, nm, tx, nn, ka, kc, K) p (L.length + i) x _ HMO.out HBA.out HIL.out HDA.out)
      have HST2 := Lib.hid fun (e : Int) (x' : Dst) (hs : DdStep x (ddOf (k, nm, tx, nn, ka, kc, K)) e x') => fuse_step (x := ddOf (k, nm, tx, nn, ka, kc, K)) ⟨(by omega : 1 ≤ k), (by omega : k ≤ 4)⟩ HX.out.1 (by rw [HX.out.2]; exact HQ.out.1) hs
      simp only [mdC] at HCALL
      clear HAL HDE HMO
      go_wp2_with fail
      refine HCALL.out.mono ?_
      rintro e w4 ⟨c, x', rfl, hs, hd, hf⟩
      obtain ⟨s1, s2, s3⟩ := HST2.out c x' hs
      rw [HX.out.2] at s1 s3
      have hw : IntKind.i64.wrap (q - 1) = q - 1 := by have := HQ.out; rw [IntKind.wrap_i64]; omega
      have HD4 := Lib.hid hd
      have HB4 := Lib.hid (HBA.out.trans hf.1)
      have HX4 : Hid (x'.fu = true ∧ x'.lf = max 0 (q - 1)) := Lib.hid ⟨s2, s3⟩
      have HQ4 : Hid (0 ≤ max 0 (q - 1) ∧ max 0 (q - 1) ≤ 9223372036854775807) := Lib.hid (by have := HQ.out; omega)
      clear hs hd hf HCALL HST2 s2 s3 hk1 hk4 y0 y1 y2 y3 y4
      by_cases hq0 : q = 0
      · have hc : c = 17 := s1.2 hq0
        subst hc
        subst hq0
        clear s1
        go_wp2_with fail
        go_roundw
        case rel => exact ⟨i + 1, x', _, by omega, by go_num, rfl, HQ4, HX4, HD4, HB4⟩
        case measure => simp [intOf]; omega
      · have hc : ¬ c = 17 := fun h => hq0 (s1.1 h)
        have f1 : (c == 17) = false := by simpa using hc
        have f2 : (q == 0) = false := by simpa using hq0
        clear s1 hc hq0
        go_wp2_with fail
        go_roundw
        case rel => exact ⟨i + 1, x', _, by omega, by go_num, rfl, HQ4, HX4, HD4, HB4⟩
        case measure => simp [intOf]; omega
    · have m1 : ¬ (i : Int) < (M.length : Int) := by omega
      have HNN : Hid (L.length + i ≤ 4398046511104) := Lib.hid (by have := HLN.out; omega)
      have HLI := Lib.hid (dlist_any HNN.out HD.out)
      have HDN : Hid (x.down = decide (q = 0)) := Lib.hid (by rw [fuse_down HX.out.1, HX.out.2])
      clear HDE
      go_wp2_with fail
      refine HLI.out.mono ?_
      rintro e w4 ⟨hb, hend⟩
      have HD4 := Lib.hid (HD.out.below hb)
      have HB4 := Lib.hid (Below.step HB.out hb)
      have HCR := Lib.hid (crash_any none 0 [] (fun W _ => SAt.nil) (by decide) (by simp) HNN.out HD4.out)
      clear hb HLI HB HD
      rcases hend with ⟨hd, rfl⟩ | ⟨hd, ks, fa, fc, _, rfl, _⟩
      · have hq : q = 0 := by rw [HDN.out] at hd; exact of_decide_eq_true hd
        subst hq
        clear hd
        go_wp2_with fail
        refine HCR.out.mono ?_
        rintro e w5 ⟨hf, rfl, hds⟩
        have HB5 := Lib.hid (HB4.out.trans hf.1)
        have HLI := Lib.hid (dlist_any HNN.out hds)
        clear hf hds HCR
        go_wp2_with fail
        refine HLI.out.mono ?_
        rintro e w6 ⟨hb, ⟨hd, _⟩ | ⟨hd, ks, fa, fc, _, rfl, _⟩⟩
        · cases hd
        have HB6 := Lib.hid (Below.step HB5.out hb)
        clear hb hd HLI
        go_wp2_with fail
        go_ret
        exact ⟨rfl, HB6.out⟩
      · have hq : ¬ q = 0 := by rw [HDN.out] at hd; exact of_decide_eq_false hd
        have f2 : (q == 0) = false := by simpa using hq
        clear hd hq
        go_wp2_with fail
        refine HCR.out.mono ?_
        rintro e w5 ⟨hf, rfl, hds⟩
        have HB5 := Lib.hid (HB4.out.trans hf.1)
        have HLI := Lib.hid (dlist_any HNN.out hds)
        clear hf hds HCR
        go_wp2_with fail
        refine HLI.out.mono ?_
        rintro e w6 ⟨hb, ⟨hd, _⟩ | ⟨hd, ks, fa, fc, _, rfl, _⟩⟩
        · cases hd
        have HB6 := Lib.hid (Below.step HB5.out hb)
        clear hb hd HLI
        go_wp2_with fail
        go_ret
        exact ⟨rfl, HB6.out⟩
end Go.Proofs.Ytmnmgoafemnppaa
