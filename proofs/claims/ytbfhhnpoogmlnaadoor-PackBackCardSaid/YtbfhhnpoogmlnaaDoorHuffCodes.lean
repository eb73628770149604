/- The walk of huff.Codes. -/
import Derived.Test.YtbfhhnpoogmlnaaDoorHuffW
namespace Go.Proofs.YtbfhhnpoogmlnaaDoor
open Go.RowKit Plain
namespace Plain
/-- where Codes stands at a place (n, s) -/
def CInv (l : List Int) (n s next last : Nat) (cs : List Nat) : Prop :=
  cs.length = l.length ∧ last ≤ n ∧ next * 2 ^ (48 - last) = pos l n s ∧
    ∀ t, t < l.length → (ahead l n s t = true → cs.getD t 0 * wt l t = pos l (l.getD t 0).toNat t) ∧ (ahead l n s t = false → cs.getD t 0 = 0)
theorem CInv.start (l : List Int) : CInv l 1 0 0 0 (List.replicate l.length 0) := by
  refine ⟨by simp, by omega, by rw [pos_start, Nat.zero_mul], fun t ht => ⟨fun h => ?_, fun _ => ?_⟩⟩
  · simp only [ahead, decide_eq_true_eq] at h; omega
  · rw [List.getD_eq_getElem?_getD, List.getElem?_replicate]; split <;> rfl
theorem ahead_skip {l : List Int} {n s : Nat} (h : l.getD s 0 ≠ n) (t : Nat) : ahead l n (s + 1) t = ahead l n s t := by
  unfold ahead
  apply decide_eq_decide.2
  by_cases e : t = s
  · subst e; omega
  · omega
theorem CInv.skip {l : List Int} {n s next last : Nat} {cs : List Nat} (h : CInv l n s next last cs) (hn : l.getD s 0 ≠ n) : CInv l n (s + 1) next last cs :=
  ⟨h.1, h.2.1, by rw [pos_skip l n s hn]; exact h.2.2.1, fun t ht => by rw [ahead_skip hn]; exact h.2.2.2 t ht⟩
theorem CInv.mul {l : List Int} {n s next last : Nat} {cs : List Nat} (h : CInv l n s next last cs) (hn : n ≤ 48) : next * 2 ^ (n - last) * 2 ^ (48 - n) = pos l n s := by
  rw [← h.2.2.1, Nat.mul_assoc, ← Nat.pow_add]
  have := h.2.1
  congr 2
  omega
theorem CInv.take {l : List Int} {n s next last : Nat} {cs : List Nat} (h : CInv l n s next last cs) (h0 : 0 < n) (hn : n ≤ 48) (hs : s < l.length) (he : l.getD s 0 = n) : CInv l n (s + 1) (next * 2 ^ (n - last) + 1) n (cs.set s (next * 2 ^ (n - last))) := by
  have hm := h.mul hn
  have hw : wt l s = 2 ^ (48 - n) := by unfold wt; rw [he]; simp
  refine ⟨by rw [List.length_set]; exact h.1, Nat.le_refl _, by rw [pos_take l n s hs h0 he, Nat.add_mul, hm, hw, Nat.one_mul], fun t ht => ?_⟩
  by_cases e : t = s
  · subst e
    have hg : (cs.set t (next * 2 ^ (n - last))).getD t 0 = next * 2 ^ (n - last) := by
      rw [List.getD_eq_getElem?_getD, List.getElem?_set_self (by rw [h.1]; exact hs)]
      rfl
    refine ⟨fun _ => ?_, fun ha => ?_⟩
    · rw [hg, hw, hm, he]; simp
    · simp only [ahead, decide_eq_false_iff_not] at ha; omega
  · have hg : (cs.set s (next * 2 ^ (n - last))).getD t 0 = cs.getD t 0 := by
      rw [List.getD_eq_getElem?_getD, List.getElem?_set_ne (fun e' => e e'.symm), ← List.getD_eq_getElem?_getD]
    have ha : ahead l n (s + 1) t = ahead l n s t := by
      unfold ahead
      apply decide_eq_decide.2
      omega
    rw [hg, ha]
    exact h.2.2.2 t ht
theorem CInv.round {l : List Int} {n next last : Nat} {cs : List Nat} (h : CInv l n l.length next last cs) : CInv l (n + 1) 0 next last cs := by
  refine ⟨h.1, by have := h.2.1; omega, by rw [pos_round]; exact h.2.2.1, fun t ht => ?_⟩
  have ha : ahead l (n + 1) 0 t = ahead l n l.length t := by
    unfold ahead
    apply decide_eq_decide.2
    omega
  rw [ha]
  exact h.2.2.2 t ht
theorem CInv.done {l : List Int} {next last : Nat} {cs : List Nat} (h : CInv l 49 0 next last cs) (hb : ∀ n ∈ l, n ≤ 48) : IsCode l cs ∧ ∀ t, t < l.length → ¬ 0 < l.getD t 0 → cs.getD t 0 = 0 := by
  refine ⟨⟨h.1, fun t ht h0 => (h.2.2.2 t ht).1 ?_⟩, fun t ht h0 => (h.2.2.2 t ht).2 ?_⟩
  · have : l.getD t 0 ≤ 48 := by rw [getD_get ht]; exact hb _ (List.getElem_mem ht)
    simp only [ahead, decide_eq_true_eq]; omega
  · simp only [ahead, decide_eq_false_iff_not]; omega
end Plain
/-- a number as a value; the cells of some -/
def vN (n : Nat) : Value := .int .i64 (n : Int)
def nC (l : List Nat) : Array Value := (l.map vN).toArray
theorem info_int : (Tryd.prog.info? 3).map (fun i => (i.zero, i.size, i.bytes)) = some (some (.int .i64 0), 1, 8) := by kernel_rfl
set_option maxRecDepth 100000 in
theorem run_make_ints (n : Nat) (hn : n ≤ 1048576) (u : World) : (Instr.makeSlice 116 (.int .i64 (n : Int)) (.int .i64 (n : Int))).run Tryd.prog u = .ok (.slice (some ⟨u.heap.size, 0, none⟩) n n) (u.alloc (.cells (nC (List.replicate n 0)) 3)) := by
  obtain ⟨i, hi, hz, hs, hb⟩ := info_parts info_int
  have := run_make (P := Tryd.prog) u 116 3 i (.int .i64 0) Tryd.underlying116 hi hz .i64 .i64 (n : Int) (n : Int) (by omega) (Int.le_refl _) (by rw [hb]; omega) (by omega)
  rw [this, hs, Int.toNat_natCast]
  congr 3
  simp only [madeCells, Nat.mul_one]
  apply Array.ext
  · simp [nC]
  · intro k h1 h2
    simp [Value.cells, nC, vN, Nat.mod_one]
theorem nC_get (l : List Nat) (i : Nat) (h : i < l.length) : (nC l)[i]? = some (.int .i64 ((l.getD i 0 : Nat) : Int)) := by
  simp [nC, vN, List.getD_eq_getElem?_getD, List.getElem?_eq_getElem h]
theorem nC_set (l : List Nat) (i v : Nat) : (nC l).setIfInBounds i (.int .i64 (v : Int)) = nC (l.set i v) := by
  simp [nC, vN]
theorem own_new {w0 w : World} {g : Nat} {t : TypeId} {cs : List Nat} (h : w.heap[g]? = some (.cells (nC cs) t (0, 0))) (hb : w0.heap.size ≤ g) (hl : cs.length ≤ 9223372036854775807) : w.ownsRow w0.heap.size t 1 (.slice (some ⟨g, 0, none⟩) cs.length cs.length) cs.length (cs.map vN) :=
  ⟨by simp, .inr ⟨g, cs.length, _, rfl, hb, h, Nat.le_refl _, by unfold maxLen; exact hl, by simp [nC], by show ((cs.map vN).toArray.toList).take (cs.length * 1) = _; rw [List.toList_toArray, Nat.mul_one]; exact List.take_of_length_le (by simp)⟩⟩
/-- what Codes leaves -/
def CodesEnd (w0 : World) (l : List Int) (e : Ending) (w : World) : Prop := Below w0.heap.size w0 w ∧
  ((kr l = (0, 1) ∧ e = .returned (.tuple #[.slice none 0 0, .int .i64 1])) ∨ (kr l = (ks l, 0) ∧ 281474976710656 < ks l ∧ e = .returned (.tuple #[.slice none 0 0, .int .i64 4])) ∨
   (kr l = (ks l, 0) ∧ ks l ≤ 281474976710656 ∧ ∃ g cs, e = .returned (.tuple #[.slice (some ⟨g, 0, none⟩) l.length l.length, .int .i64 0]) ∧ g < w.heap.size ∧ w0.heap.size ≤ g ∧ w.heap[g]? = some (.cells (nC cs) 3 (0, 0)) ∧ IsCode l cs ∧ ∀ t, t < l.length → ¬ 0 < l.getD t 0 → cs.getD t 0 = 0))
theorem kr_cases (l : List Int) : kr l = (0, 1) ∨ (kr l = (ks l, 0) ∧ 1 ≤ l.length ∧ l.length ≤ 256 ∧ ∀ n ∈ l, 0 ≤ n ∧ n ≤ 48) := by
  unfold kr
  split
  · exact .inl rfl
  · rename_i h
    refine .inr ⟨rfl, by omega, by omega, fun n hn => ?_⟩
    have h3 : l.any bad = false := by
      cases hq : l.any bad with
      | true => exact absurd (Or.inr (Or.inr hq)) h
      | false => rfl
    have := List.any_eq_false.1 h3 n hn
    simp only [bad, decide_eq_true_eq] at this
    omega
theorem shl_le (x k : Nat) (h : x * 2 ^ k ≤ 281474976710656) (c : Int) (hc : c.toNat = k) : IntKind.i64.wrap ((x : Int) * 2 ^ c.toNat) = ((x * 2 ^ k : Nat) : Int) := by
  rw [hc]
  have e2 : ((x : Int) * 2 ^ k) = ((x * 2 ^ k : Nat) : Int) := by simp
  rw [e2]
  generalize x * 2 ^ k = y at *
  rw [IntKind.wrap_i64]
  omega
set_option maxRecDepth 100000 in
set_option maxHeartbeats 2000000 in
theorem codes_any (a : Option Addr) (cap : Nat) (l : List Int) (w : World) (h : SAt 1 iC w a l) (hl : l.length ≤ 9223372036854775807) :
    Calls Tryd.prog 63 #[.slice a l.length cap] w (CodesEnd w l) := by
  have HS := Lib.hid h
  have HK := Lib.hid fun wx (hx : SAt 1 iC wx a l) => kraft_any a cap l wx hx hl
  clear h
  rcases kr_cases l with hk | ⟨hk, hl1, hl2, hbd⟩
  · have HKR := Lib.hid hk
    rw [hk] at HK
    clear hk
    go_enter Tryd.func63, Tryd.ntmps63
    go_wp2_with fail
    refine (HK.out _ HS.out).mono ?_
    rintro e w1 ⟨rfl, hb1⟩
    go_wp2_with fail
    go_ret2
    exact ⟨hb1, .inl ⟨HKR.out, rfl⟩⟩
  · have HKR := Lib.hid hk
    rw [hk] at HK
    clear hk
    by_cases hbig : 281474976710656 < ks l
    · have HBIG := Lib.hid hbig
      have n1 : (281474976710656 : Int) < (ks l : Int) := by omega
      clear hbig
      generalize hks : ks l = K at *
      have HKS := Lib.hid hks
      clear hks
      go_enter Tryd.func63, Tryd.ntmps63
      go_wp2_with fail
      refine (HK.out _ HS.out).mono ?_
      rintro e w1 ⟨rfl, hb1⟩
      go_wp2_with fail
      go_ret2
      exact ⟨hb1, .inr (.inl ⟨by rw [HKS.out]; exact HKR.out, by rw [HKS.out]; exact HBIG.out, rfl⟩)⟩
    · have HBD := Lib.hid hbd
      have HMK := Lib.hid (run_make_ints l.length (by omega))
      have n1 : ¬ (281474976710656 : Int) < (ks l : Int) := by omega
      have HPOS : Hid (∀ n s, pos l n s ≤ 281474976710656) := fun n s => Nat.le_trans (pos_le l n s) (by omega)
      have HSM : Hid (ks l ≤ 281474976710656) := by show _ ≤ _; omega
      clear hbd hbig
      generalize hks : ks l = K at *
      have HKS := Lib.hid hks
      have hmk := HMK.out
      clear hks
      go_enter Tryd.func63, Tryd.ntmps63
      go_wp2_with fail
      refine (HK.out _ HS.out).mono ?_
      rintro e w1 ⟨rfl, hb1⟩
      have HB1 := Lib.hid (hb1.alloc hb1.size (.cells (nC (List.replicate l.length 0)) 3))
      have HR1 := Lib.hid (heap_alloc_new w1 (.cells (nC (List.replicate l.length 0)) 3))
      have hw1 : w.heap.size ≤ w1.heap.size := hb1.size
      clear hb1
      go_wp2_with fail
      clear hmk
      generalize w1.alloc (.cells (nC (List.replicate l.length 0)) 3) = wa at *
      generalize w1.heap.size = B at *
      have HRELS : Hid (CInv l 1 0 0 0 (List.replicate l.length 0)) := CInv.start l
      go_loopw [7, 8, 9] (fun xv yv nv wr => ∃ (n next last : Nat) (cs : List Nat), nv = .int .i64 (n : Int) ∧ 1 ≤ n ∧ n ≤ 49 ∧ xv = .int .i64 (next : Int) ∧ yv = .int .i64 (last : Int) ∧ CInv l n 0 next last cs ∧ Below w.heap.size w wr ∧ wr.heap[B]? = some (.cells (nC cs) 3 (0, 0))) (fun _ _ nv _ => 49 - (intOf nv).toNat)
      case atStart => exact ⟨1, 0, 0, _, rfl, by omega, by omega, rfl, rfl, HRELS.out, HB1.out, HR1.out⟩
      case round =>
        obtain ⟨n, next, last, cs, rfl, hn1, hn2, rfl, rfl, hinv, hbr, hrow⟩ := hrel
        have HINV := Lib.hid hinv
        have HBR := Lib.hid hbr
        have HROW := Lib.hid hrow
        clear HB1 HR1 HRELS hinv hbr hrow
        by_cases hn : n ≤ 48
        · have k1 : (n : Int) ≤ 48 := by omega
          go_wp2_with fail
          go_loopw [7, 8, 31] (fun xv yv sv wr => ∃ (s next last : Nat) (cs : List Nat), sv = .int .i64 (s : Int) ∧ s ≤ l.length ∧ xv = .int .i64 (next : Int) ∧ yv = .int .i64 (last : Int) ∧ CInv l n s next last cs ∧ Below w.heap.size w wr ∧ wr.heap[B]? = some (.cells (nC cs) 3 (0, 0))) (fun _ _ sv _ => l.length - (intOf sv).toNat)
          case atStart => exact ⟨0, next, last, cs, rfl, by omega, rfl, rfl, HINV.out, HBR.out, HROW.out⟩
          case round =>
            obtain ⟨s, next, last, cs, rfl, hs, rfl, rfl, hinv, hbr, hrow⟩ := hrel
            clear HINV HBR HROW
            have HINV := Lib.hid hinv
            have HBR := Lib.hid hbr
            have HROW := Lib.hid hrow
            have hln := hinv.2.1
            have hcl := hinv.1
            clear hinv hbr hrow
            by_cases hlt : s < l.length
            · have m1 : (s : Int) < (l.length : Int) := by omega
              obtain ⟨g, off, rfl, hg, hr⟩ := (HS.out.below HBR.out).int s hlt
              have HGD := Lib.hid (getD_get hlt)
              have hbd := HBD.out _ (List.getElem_mem hlt)
              generalize l[s] = t at *
              by_cases ht : t = (n : Int)
              · subst ht
                have hmul := HINV.out.mul hn
                have hx0 : next * 2 ^ (n - last) ≤ 281474976710656 := by
                  have h1 := HPOS.out n s
                  have h2 : 1 ≤ 2 ^ (48 - n) := Nat.two_pow_pos _
                  exact Nat.le_trans (Nat.le_mul_of_pos_right _ h2) (Nat.le_trans (Nat.le_of_eq hmul) h1)
                have hsh := shl_le next (n - last) hx0 ((n : Int) - (last : Int)) (by omega)
                have hsh2 := hsh
                rw [show ((n : Int) - (last : Int)).toNat = n - last by omega] at hsh2
                have HTK := Lib.hid (HINV.out.take (by omega) hn hlt HGD.out)
                have c0 := cell_of_row wr B s _ _ _ HROW.out
                rw [nC_get cs s (by omega)] at c0
                have f0 := frozen_of_row wr B s _ _ HROW.out
                have HR2 := Lib.hid (heap_setCell_same wr B s _ 3 (.int .i64 ((next * 2 ^ (n - last) : Nat) : Int)) HROW.out)
                rw [nC_set] at HR2
                have HB2 := Lib.hid (HBR.out.setCell (p := ⟨B, s, none⟩) hw1 (.int .i64 ((next * 2 ^ (n - last) : Nat) : Int)))
                generalize next * 2 ^ (n - last) = x at *
                have hx1 : (x : Int) ≤ 281474976710656 := by omega
                clear hg hmul
                go_wp2_with fail
                go_roundw
                case rel => exact ⟨s + 1, x + 1, n, cs.set s x, by go_num, by omega, by go_num, rfl, HTK.out, HB2.out, HR2.out⟩
                case measure => simp [intOf]; omega
              · have hne : (t == (n : Int)) = false := beq_eq_false_iff_ne.2 ht
                have HSK := Lib.hid (HINV.out.skip (n := n) (s := s) (by rw [HGD.out]; exact ht))
                clear hg ht
                go_wp2_with fail
                go_roundw
                case rel => exact ⟨s + 1, next, last, cs, by go_num, by omega, rfl, rfl, HSK.out, HBR.out, HROW.out⟩
                case measure => simp [intOf]; omega
            · have m1 : ¬ (s : Int) < (l.length : Int) := by omega
              obtain rfl : s = l.length := by omega
              have HRD := Lib.hid HINV.out.round
              go_wp2_with fail
              go_roundw
              case rel => exact ⟨n + 1, next, last, cs, by go_num, by omega, by omega, rfl, rfl, HRD.out, HBR.out, HROW.out⟩
              case measure => simp [intOf]; omega
        · have k1 : ¬ (n : Int) ≤ 48 := by omega
          obtain rfl : n = 49 := by omega
          have HD := Lib.hid (HINV.out.done fun n hn => (HBD.out n hn).2)
          go_wp2_with fail
          go_ret2
          exact ⟨HBR.out, .inr (.inr ⟨by rw [HKS.out]; exact HKR.out, by rw [HKS.out]; exact HSM.out, B, cs, rfl, lt_of_block HROW.out, hw1, HROW.out, HD.out.1, fun t ht h0 => HD.out.2 t ht (by omega)⟩)⟩
end Go.Proofs.YtbfhhnpoogmlnaaDoor
