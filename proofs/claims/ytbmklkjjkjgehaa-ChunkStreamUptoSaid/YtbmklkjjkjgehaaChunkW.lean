/- The walks of chunk.pieces and chunk.Fixed. -/
import Derived.Test.YtbmklkjjkjgehaaChunkEnd
import Derived.Test.YtbmklkjjkjgehaaStrs
namespace Go.Proofs.Ytbmklkjjkjgehaa
open Go.RowKit Plain
theorem strN_take (s : ByteArray) (k : Nat) : strN (s.extract 0 k) = (strN s).take k := by
  rw [extract_strN', List.drop_zero, Nat.sub_zero]
theorem strN_drop (s : ByteArray) (k : Nat) : strN (s.extract k s.size) = (strN s).drop k := extract_strN s k
/-- what pieces leaves: the pieces in new memory, and the rest -/
def PcEnd (w0 : World) (R : Rule) (s : ByteArray) (e : Ending) (w : World) : Prop :=
  ∃ (ps : List ByteArray) (r : ByteArray) (a : Option Addr) (c : Nat), R.Pcs (strN s) (ps.map strN) (strN r) ∧ ps.length + r.size ≤ s.size ∧ e = .returned (.tuple #[.slice a ps.length c, .string r]) ∧ w.ownsRow w0.heap.size 9 1 (.slice a ps.length c) ps.length (ps.flatMap sC) ∧ Below w0.heap.size w0 w
/-- the pieces so far, and what is left -/
def Pre (R : Rule) (s : ByteArray) (ps : List ByteArray) (r : ByteArray) : Prop :=
  ps.length + r.size ≤ s.size ∧ ∀ qs t, R.Pcs (strN r) qs t → R.Pcs (strN s) (ps.map strN ++ qs) t
theorem Pre.start (R : Rule) (s : ByteArray) : Pre R s [] s := ⟨by simp, fun _ _ h => h⟩
theorem Pre.step {R : Rule} {s : ByteArray} {ps : List ByteArray} {r : ByteArray} (h : Pre R s ps r) {k : Nat} (hk : 1 ≤ k) (he : R.End (strN r) k) : Pre R s (ps ++ [r.extract 0 k]) (r.extract k r.size) := by
  have hl := he.le
  rw [strN_length] at hl
  refine ⟨?_, fun qs t g => ?_⟩
  · have := h.1
    rw [List.length_append, List.length_singleton, ByteArray.size_extract]
    omega
  · rw [strN_drop] at g
    have := h.2 _ _ (Rule.Pcs.go hk he g)
    rw [List.map_append, List.append_assoc, List.map_cons, List.map_nil, strN_take]
    exact this
theorem Pre.stop {R : Rule} {s : ByteArray} {ps : List ByteArray} {r : ByteArray} (h : Pre R s ps r) (he : R.End (strN r) 0) : R.Pcs (strN s) (ps.map strN) (strN r) := by
  have := h.2 [] (strN r) (.stop he)
  simpa using this
set_option maxRecDepth 100000 in
set_option maxHeartbeats 2000000 in
theorem pieces_any (mn mx b : Nat) (s : ByteArray) (w : World) (hb1 : b ≤ 12) (hs : s.size ≤ 4096) :
    Calls Try.prog 64 #[cutV mn mx b, .string s] w (PcEnd w (cutRule mn mx b) s) := by
  obtain ⟨i0, hi0, hz0, hz1, hz2⟩ := info_parts info_str
  have HEND := Lib.hid fun (r : ByteArray) (hr : r.size ≤ 4096) u => end_any mn mx b r u hb1 (by omega)
  have HC0 : Hid ((w.alloc (.cells #[.int .i64 (mn : Int), .int .i64 (mx : Int), .int .i64 (b : Int)] 23)).heap[w.heap.size]? = some (.cells #[.int .i64 (mn : Int), .int .i64 (mx : Int), .int .i64 (b : Int)] 23 (0, 0))) := heap_alloc_new w _
  have HB0 := Lib.hid ((Below.refl w.heap.size w).alloc (Nat.le_refl _) (.cells #[.int .i64 (mn : Int), .int .i64 (mx : Int), .int .i64 (b : Int)] 23))
  have HB1 := Lib.hid (Below.refl (w.heap.size + 1) (w.alloc (.cells #[.int .i64 (mn : Int), .int .i64 (mx : Int), .int .i64 (b : Int)] 23)))
  unfold cutV at HEND ⊢
  go_enter Try.func64, Try.ntmps64
  go_wp2_with fail
  go_loopw [1, 6] (fun sv ov wr => ∃ (ps : List ByteArray) (r : ByteArray) (oa : Option Addr) (oc : Nat), sv = .string r ∧ ov = .slice oa ps.length oc ∧ Pre (cutRule mn mx b) s ps r ∧ wr.ownsRow (w.heap.size + 1) 9 1 (.slice oa ps.length oc) ps.length (ps.flatMap sC) ∧ wr.heap[w.heap.size]? = some (.cells #[.int .i64 (mn : Int), .int .i64 (mx : Int), .int .i64 (b : Int)] 23 (0, 0)) ∧ Below w.heap.size w wr) (fun sv _ _ => szV sv)
  case atStart => exact ⟨[], s, none, 0, rfl, rfl, Pre.start _ _, World.ownsRow_nil _ _ _ _, HC0.out, HB0.out⟩
  case round =>
    obtain ⟨ps, r, oa, oc, rfl, rfl, hpre, hown, hc, hbr⟩ := hrel
    have HPRE := Lib.hid hpre
    have HOWN := Lib.hid hown
    have HBR := Lib.hid hbr
    have HC := Lib.hid hc
    have hp1 := hpre.1
    have HE1 := Lib.hid (HEND.out r (by omega))
    have c0 := cell_of_row wr w.heap.size 0 _ _ _ hc
    have c1 := cell_of_row wr w.heap.size 1 _ _ _ hc
    have c2 := cell_of_row wr w.heap.size 2 _ _ _ hc
    simp only [List.getElem?_toArray, List.getElem?_cons_zero, List.getElem?_cons_succ] at c0 c1 c2
    clear hpre hown hbr hc HC0 HB0 HB1 HEND
    go_wp2_with fail
    refine (HE1.out _).mono ?_
    rintro e w1 ⟨k, hend, rfl, hb1⟩
    have hkl : k ≤ r.size := by have := hend.le; rwa [strN_length] at this
    have HO1 := Lib.hid (own_below' HOWN.out hb1)
    have HB1 := Lib.hid (Below.step HBR.out hb1)
    have HC1 := Lib.hid ((hb1.block _ (lt_of_block HC.out)).trans HC.out)
    have hw1 : w.heap.size + 1 ≤ w1.heap.size := lt_of_block HC1.out
    clear hb1 c0 c1 c2
    by_cases h0 : k = 0
    · subst h0
      have HST := Lib.hid (HPRE.out.stop hend)
      clear hend
      go_wp2_with fail
      go_ret2
      exact ⟨ps, r, oa, oc, HST.out, hp1, rfl, ⟨HO1.out.1, by
        rcases HO1.out.2 with h | ⟨g, cap, cur, hv, hB, hg⟩
        · exact .inl h
        · exact .inr ⟨g, cap, cur, hv, by omega, hg⟩⟩, HB1.out⟩
    · have f0 : ((k : Int) == 0) = false := beq_eq_false_iff_ne.2 (by omega)
      have HST := Lib.hid (HPRE.out.step (by omega) hend)
      have k0 : (0 : Int) ≤ (k : Int) := Int.natCast_nonneg _
      have k1 : (k : Int) ≤ (r.size : Int) := by omega
      have D1 := Lib.hid (cells_new_at w1 w1.heap.size rfl #[.string (r.extract 0 k)] 9 (sC (r.extract 0 k)) rfl)
      have D2 : Hid (∀ u ∈ sC (r.extract 0 k), u.oneCell' = true) := fun u hu => sC_one _ u hu
      have D3 : Hid (ps.length + 1 ≤ maxLen) := by show _ ≤ _; unfold maxLen; omega
      have D4 : Hid ((ps.length + 1) * 16 ≤ 140737488355328) := by show _ ≤ _; omega
      have D5 : Hid (w.heap.size + 1 ≤ (w1.alloc (.cells #[.string (r.extract 0 k)] 9)).heap.size) := by show _ ≤ _; simp; omega
      have D7 : (r.extract k r.size).size = r.size - k := by rw [ByteArray.size_extract]; omega
      have hk1 : 1 ≤ k := by omega
      clear hend h0
      go_wp2_with (at_builtin; refine wpList_append_own _ rfl _ _ 24 rfl (w.heap.size + 1) 9 i0 (.string ⟨#[]⟩) 1 16 Try.underlying24 hi0 hz0 hz1 hz2 rfl (by decide) _ _ _ rfl (HO1.out.alloc _) ⟨w1.heap.size, 0, none⟩ 1 1 (sC (r.extract 0 k)) rfl rfl D1.out D2.out D3.out D4.out D5.out ?_)
      intro v' w2 hown' hgrow _
      have BW := Lib.hid (below_own ((HB1.out.alloc (by omega) (.cells #[.string (r.extract 0 k)] 9))) hgrow (by simp; omega) (HO1.out.alloc _) (by omega))
      have HC2 := Lib.hid ((hgrow.block w.heap.size (by simp; omega) (fun e => by have := (HO1.out.lt _ e.symm).1; omega)).trans ((Below.heap_alloc _ _ _ (lt_of_block HC1.out)).trans HC1.out))
      obtain ⟨oa2, oc2, rfl⟩ := own_form' hown'
      have OW : Hid (w2.ownsRow (w.heap.size + 1) 9 1 (.slice oa2 (ps ++ [r.extract 0 k]).length oc2) (ps ++ [r.extract 0 k]).length ((ps ++ [r.extract 0 k]).flatMap sC)) := by
        show w2.ownsRow _ _ _ _ _ _
        rw [List.length_append, sCs_snoc]
        exact hown'
      clear hown' hgrow
      go_wp2_with fail
      go_roundw
      case rel => exact ⟨ps ++ [r.extract 0 k], r.extract k r.size, oa2, oc2, rfl, by rw [List.length_append]; rfl, HST.out, OW.out, HC2.out, BW.out⟩
      case measure => simp only [szV]; omega
def CkEnd (w0 : World) (mn mx b : Int) (e : Ending) (w : World) : Prop :=
  ((e = .returned (.int .i64 0) ∧ 16 ≤ mn ∧ mn ≤ mx ∧ mx ≤ 1024 ∧ 1 ≤ b ∧ b ≤ 12) ∨ (e = .returned (.int .i64 1) ∧ ¬ (16 ≤ mn ∧ mn ≤ mx ∧ mx ≤ 1024 ∧ 1 ≤ b ∧ b ≤ 12))) ∧ Below w0.heap.size w0 w
set_option maxRecDepth 100000 in
set_option maxHeartbeats 2000000 in
theorem ccheck_any (mn mx b : Int) (w : World) : Calls Try.prog 63 #[.agg #[.int .i64 mn, .int .i64 mx, .int .i64 b]] w (CkEnd w mn mx b) := by
  have HB0 := Lib.hid ((Below.refl w.heap.size w).alloc (Nat.le_refl _) (.cells #[.int .i64 mn, .int .i64 mx, .int .i64 b] 23))
  by_cases p0 : mn < 16
  · have f0 : decide (mn < 16) = true := decide_eq_true p0
    go_enter Try.func63, Try.ntmps63
    go_wp2_with fail
    go_ret
    exact ⟨.inr ⟨rfl, by omega⟩, HB0.out⟩
  · have f0 : decide (mn < 16) = false := decide_eq_false p0
    by_cases p1 : mx < mn
    · have f1 : decide (mx < mn) = true := decide_eq_true p1
      go_enter Try.func63, Try.ntmps63
      go_wp2_with fail
      go_ret
      exact ⟨.inr ⟨rfl, by omega⟩, HB0.out⟩
    · have f1 : decide (mx < mn) = false := decide_eq_false p1
      by_cases p2 : 1024 < mx
      · have f2 : decide (1024 < mx) = true := decide_eq_true p2
        go_enter Try.func63, Try.ntmps63
        go_wp2_with fail
        go_ret
        exact ⟨.inr ⟨rfl, by omega⟩, HB0.out⟩
      · have f2 : decide (1024 < mx) = false := decide_eq_false p2
        by_cases p3 : b < 1
        · have f3 : decide (b < 1) = true := decide_eq_true p3
          go_enter Try.func63, Try.ntmps63
          go_wp2_with fail
          go_ret
          exact ⟨.inr ⟨rfl, by omega⟩, HB0.out⟩
        · have f3 : decide (b < 1) = false := decide_eq_false p3
          by_cases p4 : 12 < b
          · have f4 : decide (12 < b) = true := decide_eq_true p4
            go_enter Try.func63, Try.ntmps63
            go_wp2_with fail
            go_ret
            exact ⟨.inr ⟨rfl, by omega⟩, HB0.out⟩
          · have f4 : decide (12 < b) = false := decide_eq_false p4
            go_enter Try.func63, Try.ntmps63
            go_wp2_with fail
            go_ret
            exact ⟨.inl ⟨rfl, by omega, by omega, by omega, by omega, by omega⟩, HB0.out⟩
/-- what Fixed leaves -/
def FxEnd (w0 : World) (n : Int) (s : ByteArray) (e : Ending) (w : World) : Prop :=
  (∃ (ps : List ByteArray) (a : Option Addr) (c : Nat) (d : Nat), n = (d : Int) ∧ Fxd d (strN s) (ps.map strN) ∧ 1 ≤ d ∧ ps.length ≤ s.size ∧ s.size ≤ 4096 ∧ e = .returned (.tuple #[.slice a ps.length c, .int .i64 0]) ∧ w.ownsRow w0.heap.size 9 1 (.slice a ps.length c) ps.length (ps.flatMap sC) ∧ Below w0.heap.size w0 w) ∨
  (∃ c : Nat, c ≠ 0 ∧ (n < 1 ∨ 1024 < n ∨ 4096 < s.size) ∧ e = .returned (.tuple #[.slice none 0 0, .int .i64 (c : Int)]) ∧ Below w0.heap.size w0 w)
set_option maxRecDepth 100000 in
set_option maxHeartbeats 2000000 in
theorem fixed_any (n : Int) (s : ByteArray) (w : World) (hs : s.size ≤ 9223372036854775807) : Calls Try.prog 10 #[.int .i64 n, .string s] w (FxEnd w n s) := by
  by_cases p0 : n < 1
  · have f0 : decide (n < 1) = true := decide_eq_true p0
    go_enter Try.func10, Try.ntmps10
    go_wp2_with fail
    go_ret2
    exact .inr ⟨1, by decide, .inl p0, rfl, Below.refl _ _⟩
  · have f0 : decide (n < 1) = false := decide_eq_false p0
    by_cases p1 : 1024 < n
    · have f1 : decide (1024 < n) = true := decide_eq_true p1
      go_enter Try.func10, Try.ntmps10
      go_wp2_with fail
      go_ret2
      exact .inr ⟨1, by decide, .inr (.inl p1), rfl, Below.refl _ _⟩
    · have f1 : decide (1024 < n) = false := decide_eq_false p1
      obtain ⟨d, rfl⟩ := Int.eq_ofNat_of_zero_le (show 0 ≤ n by omega)
      by_cases p2 : 4096 < s.size
      · have f2 : (4096 : Int) < (s.size : Int) := by omega
        go_enter Try.func10, Try.ntmps10
        go_wp2_with fail
        go_ret2
        exact .inr ⟨2, by decide, .inr (.inr p2), rfl, Below.refl _ _⟩
      · have f2 : ¬ (4096 : Int) < (s.size : Int) := by omega
        obtain ⟨i0, hi0, hz0, hz1, hz2⟩ := info_parts info_str
        go_enter Try.func10, Try.ntmps10
        go_wp2_with fail
        go_loopw [1, 6] (fun sv ov wr => ∃ (ps : List ByteArray) (r : ByteArray) (oa : Option Addr) (oc : Nat), sv = .string r ∧ ov = .slice oa ps.length oc ∧ (∀ qs, Fxd d (strN r) qs → Fxd d (strN s) (ps.map strN ++ qs)) ∧ ps.length + r.size ≤ s.size ∧ wr.ownsRow w.heap.size 9 1 (.slice oa ps.length oc) ps.length (ps.flatMap sC) ∧ Below w.heap.size w wr) (fun sv _ _ => szV sv)
        case atStart => exact ⟨[], s, none, 0, rfl, rfl, fun _ h => h, by simp, World.ownsRow_nil _ _ _ _, Below.refl _ _⟩
        case round =>
          obtain ⟨ps, r, oa, oc, rfl, rfl, hpre, hp1, hown, hbr⟩ := hrel
          have HPRE := Lib.hid hpre
          have HOWN := Lib.hid hown
          have HBR := Lib.hid hbr
          have hw1 := hbr.size
          clear hpre hown hbr
          by_cases h0 : r.size = 0
          · have f3 : ¬ (0 : Int) < (r.size : Int) := by omega
            have hr : strN r = [] := List.eq_nil_of_length_eq_zero (by rw [strN_length]; exact h0)
            have HF : Hid (Fxd d (strN s) (ps.map strN)) := by have := HPRE.out [] (by rw [hr]; exact .nil); rwa [List.append_nil] at this
            clear HPRE hr h0
            go_wp2_with fail
            go_ret2
            exact .inl ⟨ps, oa, oc, d, rfl, HF.out, by omega, by omega, by omega, rfl, HOWN.out, HBR.out⟩
          · have f3 : (0 : Int) < (r.size : Int) := by omega
            have hm : min (d : Int) (r.size : Int) = ((min d r.size : Nat) : Int) := by omega
            obtain ⟨k, hk⟩ : ∃ k, k = min d r.size := ⟨_, rfl⟩
            rw [← hk] at hm
            have k0 : (0 : Int) ≤ (k : Int) := Int.natCast_nonneg _
            have k1 : (k : Int) ≤ (r.size : Int) := by omega
            have kk : 1 ≤ k := by omega
            have HT : Hid (∀ qs, Fxd d (strN (r.extract k r.size)) qs → Fxd d (strN s) ((ps ++ [r.extract 0 k]).map strN ++ qs)) := fun qs h => by
              rw [strN_drop] at h
              rw [List.map_append, List.append_assoc, List.map_cons, List.map_nil, strN_take]
              refine HPRE.out _ ?_
              have hk2 : k = min d (strN r).length := by rw [strN_length]; exact hk
              rw [hk2] at h ⊢
              exact Fxd.cons (by rw [strN_length]; exact h0) h
            have D1 := Lib.hid (cells_new_at wr wr.heap.size rfl #[.string (r.extract 0 k)] 9 (sC (r.extract 0 k)) rfl)
            have D2 : Hid (∀ u ∈ sC (r.extract 0 k), u.oneCell' = true) := fun u hu => sC_one _ u hu
            have D3 : Hid (ps.length + 1 ≤ maxLen) := by show _ ≤ _; unfold maxLen; omega
            have D4 : Hid ((ps.length + 1) * 16 ≤ 140737488355328) := by show _ ≤ _; omega
            have D5 : Hid (w.heap.size ≤ (wr.alloc (.cells #[.string (r.extract 0 k)] 9)).heap.size) := by show _ ≤ _; simp; omega
            have D7 : (r.extract k r.size).size = r.size - k := by rw [ByteArray.size_extract]; omega
            clear hk h0 HPRE
            go_wp2_with (at_builtin; refine wpList_append_own _ rfl _ _ 24 rfl w.heap.size 9 i0 (.string ⟨#[]⟩) 1 16 Try.underlying24 hi0 hz0 hz1 hz2 rfl (by decide) _ _ _ rfl (HOWN.out.alloc _) ⟨wr.heap.size, 0, none⟩ 1 1 (sC (r.extract 0 k)) rfl rfl D1.out D2.out D3.out D4.out D5.out ?_)
            intro v' w2 hown' hgrow _
            have BW := Lib.hid (below_own ((HBR.out.alloc hw1 (.cells #[.string (r.extract 0 k)] 9))) hgrow (by simp; omega) (HOWN.out.alloc _) (Nat.le_refl _))
            obtain ⟨oa2, oc2, rfl⟩ := own_form' hown'
            have OW : Hid (w2.ownsRow w.heap.size 9 1 (.slice oa2 (ps ++ [r.extract 0 k]).length oc2) (ps ++ [r.extract 0 k]).length ((ps ++ [r.extract 0 k]).flatMap sC)) := by
              show w2.ownsRow _ _ _ _ _ _
              rw [List.length_append, sCs_snoc]
              exact hown'
            clear hown' hgrow
            go_wp2_with fail
            go_roundw
            case rel => exact ⟨ps ++ [r.extract 0 k], r.extract k r.size, oa2, oc2, rfl, by rw [List.length_append]; rfl, HT.out, by rw [List.length_append, List.length_singleton]; omega, OW.out, BW.out⟩
            case measure => simp only [szV]; omega
end Go.Proofs.Ytbmklkjjkjgehaa
