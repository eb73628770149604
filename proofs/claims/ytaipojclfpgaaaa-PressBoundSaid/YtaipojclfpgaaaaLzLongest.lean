/- The walk of lz.longest. -/
import Derived.Test.YtaipojclfpgaaaaLzW
import Derived.Test.YtaipojclfpgaaaaBytesOwn
import Derived.Test.YtaipojclfpgaaaaResults
import Derived.Deep.QuietTactic
import Derived.BigQuiet
namespace Go.Proofs.Ytaipojclfpgaaaa
open Go.RowKit Plain
namespace Plain
/-- the longest copy among the distances below e -/
def BestTo (s : List Nat) (a e L d : Nat) : Prop :=
  L ≤ 255 ∧ a + L ≤ s.length ∧ (0 < L → 1 ≤ d ∧ d ≤ 1024 ∧ d ≤ a ∧ mt s a d L) ∧ (L = 0 → d = 0) ∧ ∀ f m, 1 ≤ f → f < e → f ≤ 1024 → f ≤ a → m ≤ 255 → a + m ≤ s.length → mt s a f m → m ≤ L
theorem BestTo.start {s : List Nat} {a : Nat} (h : a ≤ s.length) : BestTo s a 1 0 0 := ⟨by omega, h, fun h => absurd h (by omega), fun _ => rfl, fun f m h1 h2 => by omega⟩
theorem BestTo.done {s : List Nat} {a e L d : Nat} (h : BestTo s a e L d) (h1 : 1024 < e ∨ a < e ∨ 255 ≤ L ∨ s.length ≤ a + L) : Best s a L d :=
  ⟨h.1, h.2.1, h.2.2.1, h.2.2.2.1, fun f m a1 a2 a3 a4 a5 a6 => by
    rcases h1 with h1 | h1 | h1 | h1
    · exact h.2.2.2.2 f m a1 (by omega) a2 a3 a4 a5 a6
    · exact h.2.2.2.2 f m a1 (by omega) a2 a3 a4 a5 a6
    · omega
    · omega⟩
theorem mt_lt {s : List Nat} {a d n m : Nat} (hn : ¬ s.getD (a + n) 0 = s.getD (a + n - d) 0) (h : mt s a d m) : m ≤ n := by
  rcases Nat.lt_or_ge n m with h1 | h1
  · exact absurd (h n h1) hn
  · exact h1
theorem BestTo.keep {s : List Nat} {a e L d n : Nat} (h : BestTo s a e L d) (hle : n ≤ L) (hmax : ∀ m, m ≤ 255 → a + m ≤ s.length → mt s a e m → m ≤ n) : BestTo s a (e + 1) L d :=
  ⟨h.1, h.2.1, h.2.2.1, h.2.2.2.1, fun f m a1 a2 a3 a4 a5 a6 a7 => by
    by_cases hf : f = e
    · subst hf; exact Nat.le_trans (hmax m a5 a6 a7) hle
    · exact h.2.2.2.2 f m a1 (by omega) a3 a4 a5 a6 a7⟩
theorem BestTo.turn {s : List Nat} {a e L d n : Nat} (h : BestTo s a e L d) (hlt : L < n) (hn : n ≤ 255) (hs : a + n ≤ s.length) (h1 : 1 ≤ e) (h2 : e ≤ 1024) (h3 : e ≤ a) (hm : mt s a e n) (hmax : ∀ m, m ≤ 255 → a + m ≤ s.length → mt s a e m → m ≤ n) : BestTo s a (e + 1) n e :=
  ⟨hn, hs, fun _ => ⟨h1, h2, h3, hm⟩, fun h => by omega, fun f m a1 a2 a3 a4 a5 a6 a7 => by
    by_cases hf : f = e
    · subst hf; exact hmax m a5 a6 a7
    · have := h.2.2.2.2 f m a1 (by omega) a3 a4 a5 a6 a7
      omega⟩
end Plain
theorem info_tsz : (Try.prog.info? 60).map (·.size) = some 3 := by kernel_rfl
def tZ : Array Value := #[.int .u8 0, .int .i64 0, .int .i64 0]
theorem below_st {B : Nat} {w w1 : World} (h : Below B w w1) {b o : Nat} (v : Value) (hb : B ≤ b := by omega) : Below B w (w1.setCell ⟨b, o, none⟩ v) := h.setCell (p := ⟨b, o, none⟩) hb v
theorem st_other {w : World} {g : Nat} {o : Obj} (h : w.heap[g]? = some o) {b i : Nat} (hb : g ≠ b) (v : Value) : (w.setCell ⟨b, i, none⟩ v).heap[g]? = some o := (heap_setCell_other w ⟨b, i, none⟩ g v hb).trans h
theorem st_rowL {w : World} {g : Nat} {t : TypeId} {a0 a1 a2 v0 v1 v2 : Value} (h : w.heap[g]? = some (.cells #[a0, a1, a2] t (0, 0))) :
    (((w.setCell ⟨g, 0, none⟩ v0).setCell ⟨g, 1, none⟩ v1).setCell ⟨g, 2, none⟩ v2).heap[g]? = some (.cells #[v0, v1, v2] t (0, 0)) := by
  have h1 := heap_setCell_same w g 0 _ t v0 h
  have h2 := heap_setCell_same _ g 1 _ t v1 h1
  have h3 := heap_setCell_same _ g 2 _ t v2 h2
  rw [h3]
  rfl
set_option maxRecDepth 100000 in
set_option maxHeartbeats 2000000 in
theorem longest_any (s : ByteArray) (at_ : Nat) (w : World) (hat : at_ < s.size) (hs : s.size ≤ 4096) :
    Calls Try.prog 54 #[.string s, .int .i64 (at_ : Int)] w fun e w' => ∃ L d : Nat, e = .returned (.agg #[.int .u8 0, .int .i64 (L : Int), .int .i64 (d : Int)]) ∧ Best (strN s) at_ L d ∧ Below w.heap.size w w' := by
  have n1 : (at_ : Int) < (s.size : Int) := by omega
  go_enter Try.func54, Try.ntmps54
  go_wp2_with fail
  have hm : min (255 : Int) ((s.size : Int) - (at_ : Int)) = ((min 255 (s.size - at_) : Nat) : Int) := by omega
  rw [hm]
  obtain ⟨most, hmost⟩ : ∃ m, m = min 255 (s.size - at_) := ⟨_, rfl⟩
  rw [← hmost]
  have m1 : most ≤ 255 := by omega
  have m2 : at_ + most ≤ s.size := by omega
  have HM : Hid (255 ≤ most ∨ s.size ≤ at_ + most) := by show _ ∨ _; omega
  clear hm hmost
  have R0 : Hid (((w.alloc (.cells tZ 60)).alloc (.cells tZ 60)).heap[w.heap.size]? = some (.cells tZ 60 (0, 0))) := (Below.heap_alloc _ _ _ (by simp)).trans (heap_alloc_new w _)
  have R1 : Hid (((w.alloc (.cells tZ 60)).alloc (.cells tZ 60)).heap[w.heap.size + 1]? = some (.cells tZ 60 (0, 0))) := by
    show _ = _
    have := heap_alloc_new (w.alloc (.cells tZ 60)) (.cells tZ 60)
    rw [World.size_alloc] at this
    exact this
  have BW : Hid (Below w.heap.size w ((w.alloc (.cells tZ 60)).alloc (.cells tZ 60))) := ((Below.refl _ _).alloc (Nat.le_refl _) _).alloc (by simp) _
  show Code.wp _ _ _ _ ((w.alloc (.cells tZ 60)).alloc (.cells tZ 60))
  generalize ((w.alloc (.cells tZ 60)).alloc (.cells tZ 60)) = w1 at *
  go_loopw [7] (fun dv wr => ∃ d L D : Nat, dv = .int .i64 (d : Int) ∧ 1 ≤ d ∧ d ≤ 1025 ∧ Below w.heap.size w wr ∧ wr.heap[w.heap.size]? = some (.cells tZ 60 (0, 0)) ∧ wr.heap[w.heap.size + 1]? = some (.cells #[.int .u8 0, .int .i64 (L : Int), .int .i64 (D : Int)] 60 (0, 0)) ∧ L ≤ most ∧ BestTo (strN s) at_ d L D) (fun dv _ => 1025 - (intOf dv).toNat)
  case atStart => exact ⟨1, 0, 0, rfl, by omega, by omega, BW.out, R0.out, R1.out, by omega, BestTo.start (by rw [strN_length]; omega)⟩
  case round =>
    obtain ⟨d, L, D, rfl, hd1, hd2, hbr, hr0, hr1, hL, hbest⟩ := hrel
    clear R0 R1 BW
    have HBR := Lib.hid hbr
    have HR0 := Lib.hid hr0
    have HR1 := Lib.hid hr1
    have HBEST := Lib.hid hbest
    have s0 := cell_of_row wr (w.heap.size + 1) 0 _ _ _ hr1
    have s1 := cell_of_row wr (w.heap.size + 1) 1 _ _ _ hr1
    have s2 := cell_of_row wr (w.heap.size + 1) 2 _ _ _ hr1
    have f0 := frozen_of_row wr (w.heap.size + 1) 0 _ _ hr1
    have f1 := frozen_of_row wr (w.heap.size + 1) 1 _ _ hr1
    have f2 := frozen_of_row wr (w.heap.size + 1) 2 _ _ hr1
    have t0 := cell_of_row wr w.heap.size 0 _ _ _ hr0
    have t1 := cell_of_row wr w.heap.size 1 _ _ _ hr0
    have t2 := cell_of_row wr w.heap.size 2 _ _ _ hr0
    have g0 := frozen_of_row wr w.heap.size 0 _ _ hr0
    have g1 := frozen_of_row wr w.heap.size 1 _ _ hr0
    have g2 := frozen_of_row wr w.heap.size 2 _ _ hr0
    simp only [tZ, List.getElem?_toArray, List.getElem?_cons_zero, List.getElem?_cons_succ] at s0 s1 s2 t0 t1 t2
    clear hbr hr0 hr1 hbest
    by_cases hd : d ≤ 1024 ∧ d ≤ at_
    · by_cases hLm : L < most
      · obtain ⟨hda, hdb⟩ := hd
        have k1 : (d : Int) ≤ min 1024 (at_ : Int) := by omega
        have k2 : (L : Int) < (most : Int) := by omega
        -- INNER
        go_wp2_with fail
        clear s0 s1 s2 f0 f1 f2 t0 t1 t2 g0 g1 g2
        go_loopw [8] (fun nv wq => ∃ n : Nat, nv = .int .i64 (n : Int) ∧ n ≤ most ∧ Below w.heap.size w wq ∧ wq.heap[w.heap.size]? = some (.cells tZ 60 (0, 0)) ∧ wq.heap[w.heap.size + 1]? = some (.cells #[.int .u8 0, .int .i64 (L : Int), .int .i64 (D : Int)] 60 (0, 0)) ∧ mt (strN s) at_ d n) (fun nv _ => most - (intOf nv).toNat)
        case atStart => exact ⟨0, rfl, by omega, HBR.out, HR0.out, HR1.out, mt_zero _ _ _⟩
        case round =>
          obtain ⟨n, rfl, hn, hbq, hq0, hq1, hmt⟩ := hrel
          have HBQ := Lib.hid hbq
          have HQ0 := Lib.hid hq0
          have HQ1 := Lib.hid hq1
          have HMT := Lib.hid hmt
          have s0 := cell_of_row wr (w.heap.size + 1) 0 _ _ _ hq1
          have s1 := cell_of_row wr (w.heap.size + 1) 1 _ _ _ hq1
          have s2 := cell_of_row wr (w.heap.size + 1) 2 _ _ _ hq1
          have f0 := frozen_of_row wr (w.heap.size + 1) 0 _ _ hq1
          have f1 := frozen_of_row wr (w.heap.size + 1) 1 _ _ hq1
          have f2 := frozen_of_row wr (w.heap.size + 1) 2 _ _ hq1
          simp only [List.getElem?_toArray, List.getElem?_cons_zero, List.getElem?_cons_succ] at s0 s1 s2
          clear hbq hq0 hq1 hmt
          have w1' : IntKind.i64.wrap ((at_ : Int) + (n : Int)) = (at_ : Int) + (n : Int) := wraps_i64 _ (by omega) (by omega)
          have w2' : IntKind.i64.wrap ((at_ : Int) + (n : Int) - (d : Int)) = (at_ : Int) + (n : Int) - (d : Int) := wraps_i64 _ (by omega) (by omega)
          have w3' : ((at_ : Int) + (n : Int)).toNat = at_ + n := by omega
          have w4' : ((at_ : Int) + (n : Int) - (d : Int)).toNat = at_ + n - d := by omega
          have w5' : (0 : Int) ≤ (at_ : Int) + (n : Int) := by omega
          have w6' : (0 : Int) ≤ (at_ : Int) + (n : Int) - (d : Int) := by omega
          by_cases hnm : n < most
          · have k3 : (n : Int) < (most : Int) := by omega
            have i1 : at_ + n < s.size := by omega
            have i2 : at_ + n - d < s.size := by omega
            have w7' : (at_ : Int) + (n : Int) < (s.size : Int) := by omega
            have w8' : (at_ : Int) + (n : Int) - (d : Int) < (s.size : Int) := by omega
            have w9' : (d : Int) ≤ (at_ : Int) + (n : Int) := by omega
            have w10' : (at_ : Int) + (n : Int) < (s.size : Int) + (d : Int) := by omega
            have w11' : at_ + n - d < s.size := i2
            have b1 := byte_get s (at_ + n) i1
            have b2 := byte_get s (at_ + n - d) i2
            by_cases hb : (s[at_ + n]'i1).toNat = (s[at_ + n - d]'i2).toNat
            · have HS := Lib.hid (mt_succ HMT.out (by rw [← b1, ← b2]; exact hb))
              have k5 : ((((s[at_ + n]'i1).toNat : Nat) : Int) == (((s[at_ + n - d]'i2).toNat : Nat) : Int)) = true := natEq hb
              clear hb b1 b2
              go_wp2_with fail
              go_quiet (fail)
              clear w1' w2'
              go_wp2_with fail
              go_roundw
              case rel => exact ⟨n + 1, by go_num, by omega, below_dn HBQ.out _, HQ0.out, HQ1.out, HS.out⟩
              case measure => simp [intOf]; omega
            · have HMAX : Hid (∀ m, m ≤ 255 → at_ + m ≤ (strN s).length → mt (strN s) at_ d m → m ≤ n) := fun m _ _ h => mt_lt (by rw [← b1, ← b2]; exact hb) h
              have k5 : ((((s[at_ + n]'i1).toNat : Nat) : Int) == (((s[at_ + n - d]'i2).toNat : Nat) : Int)) = false := by rw [beq_eq_false_iff_ne]; omega
              clear hb b1 b2
              by_cases hgt : L < n
              · have k4 : (L : Int) < (n : Int) := by omega
                have HT := Lib.hid (HBEST.out.turn hgt (by omega) (by rw [strN_length]; omega) hd1 hda hdb HMT.out HMAX.out)
                go_wp2_with fail
                go_quiet (fail)
                clear w1' w2'
                go_wp2_with fail
                go_roundw
                case rel => exact ⟨d + 1, n, d, by go_num, by omega, by omega, below_st (below_st (below_st (below_dn HBQ.out _) _) _) _, st_other (st_other (st_other HQ0.out (by omega) _) (by omega) _) (by omega) _, st_rowL HQ1.out, by omega, HT.out⟩
                case measure => simp [intOf]; omega
              · have k4 : ¬ (L : Int) < (n : Int) := by omega
                have HK := Lib.hid (HBEST.out.keep (by omega) HMAX.out)
                go_wp2_with fail
                go_quiet (fail)
                clear w1' w2'
                go_wp2_with fail
                go_roundw
                case rel => exact ⟨d + 1, L, D, by go_num, by omega, by omega, below_dn HBQ.out _, HQ0.out, HQ1.out, by omega, HK.out⟩
                case measure => simp [intOf]; omega
          · obtain rfl : n = most := by omega
            have k3 : ¬ (n : Int) < (n : Int) := by omega
            have HMAX : Hid (∀ m, m ≤ 255 → at_ + m ≤ (strN s).length → mt (strN s) at_ d m → m ≤ n) := fun m h1 h2 _ => by rw [strN_length] at h2; rcases HM.out with h | h <;> omega
            by_cases hgt : L < n
            · have k4 : (L : Int) < (n : Int) := by omega
              have HT := Lib.hid (HBEST.out.turn hgt (by omega) (by rw [strN_length]; omega) hd1 hda hdb HMT.out HMAX.out)
              go_wp2_with fail
              go_quiet (fail)
              clear w1' w2'
              go_wp2_with fail
              go_roundw
              case rel => exact ⟨d + 1, n, d, by go_num, by omega, by omega, below_st (below_st (below_st (below_dn HBQ.out _) _) _) _, st_other (st_other (st_other HQ0.out (by omega) _) (by omega) _) (by omega) _, st_rowL HQ1.out, by omega, HT.out⟩
              case measure => simp [intOf]; omega
            · exact absurd hLm hgt
      · have k2 : ¬ (L : Int) < (most : Int) := by omega
        have HB2 := Lib.hid (HBEST.out.done (by rw [strN_length]; have := HM.out; omega))
        have k1 : (d : Int) ≤ min 1024 (at_ : Int) := by omega
        have hbf := Lib.hid (below_st (below_st (below_st HBR.out (b := w.heap.size) (o := 0) (.int .u8 0)) (b := w.heap.size) (o := 1) (.int .i64 (L : Int))) (b := w.heap.size) (o := 2) (.int .i64 (D : Int)))
        have hrow := Lib.hid (st_rowL HR0.out (v0 := .int .u8 0) (v1 := .int .i64 (L : Int)) (v2 := .int .i64 (D : Int)))
        go_wp2_with fail
        refine bodyPost_ret (v := .agg #[.int .u8 0, .int .i64 (L : Int), .int .i64 (D : Int)]) ?_ rfl ⟨L, D, rfl, HB2.out, hbf.out⟩
        exact results_row rfl _ _ w.heap.size 60 #[.int .u8 0, .int .i64 (L : Int), .int .i64 (D : Int)] (0, 0) _ rfl hrow.out Try.underlying60 rfl info_tsz
    · have k1 : ¬ (d : Int) ≤ min 1024 (at_ : Int) := by omega
      have HB2 := Lib.hid (HBEST.out.done (by omega))
      have hbf := Lib.hid (below_st (below_st (below_st HBR.out (b := w.heap.size) (o := 0) (.int .u8 0)) (b := w.heap.size) (o := 1) (.int .i64 (L : Int))) (b := w.heap.size) (o := 2) (.int .i64 (D : Int)))
      have hrow := Lib.hid (st_rowL HR0.out (v0 := .int .u8 0) (v1 := .int .i64 (L : Int)) (v2 := .int .i64 (D : Int)))
      go_wp2_with fail
      refine bodyPost_ret (v := .agg #[.int .u8 0, .int .i64 (L : Int), .int .i64 (D : Int)]) ?_ rfl ⟨L, D, rfl, HB2.out, hbf.out⟩
      exact results_row rfl _ _ w.heap.size 60 #[.int .u8 0, .int .i64 (L : Int), .int .i64 (D : Int)] (0, 0) _ rfl hrow.out Try.underlying60 rfl info_tsz
end Go.Proofs.Ytaipojclfpgaaaa
