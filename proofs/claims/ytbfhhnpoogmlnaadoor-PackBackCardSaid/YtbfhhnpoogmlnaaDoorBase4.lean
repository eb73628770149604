/- Joined: LzPack, LzExpand, LzLongest, LzGreedyW, LzBackW, LzEq, LzPackedW. -/
import Derived.Test.YtbfhhnpoogmlnaaDoorBase2
import Derived.Test.YtbfhhnpoogmlnaaDoorBase0
import Derived.Test.YtbfhhnpoogmlnaaDoorBase3
import Derived.Deep.QuietTactic
import Derived.BigQuiet
import Derived.Laws.StructEq
namespace Go.Proofs.YtbfhhnpoogmlnaaDoor
open Go.RowKit Plain
theorem info_u8 : (Tryd.prog.info? 5).map (fun i => (i.zero, i.size, i.bytes)) = some (some (.int .u8 0), 1, 1) := by kernel_rfl
set_option maxRecDepth 100000 in
set_option maxHeartbeats 1000000 in
theorem pack_any (a : Option Addr) (cap : Nat) (l : List Tok) (w : World) (h : SAt 3 tC w a l) (hl : l.length ≤ 9223372036854775807) (hlt : ∀ t ∈ l, t.1 < 256) :
    Calls Tryd.prog 61 #[.slice a l.length cap] w fun e w' => e = .returned (.tuple #[.string (strOf (if lchk l = 0 then pk l else [])), .int .i64 (lchk l : Nat)]) ∧ Below w.heap.size w w' := by
  obtain ⟨i0, hi0, hz0, hz1, hz2⟩ := info_parts info_u8
  have HC := Lib.hid fun wx (hx : SAt 3 tC wx a l) => check_any a cap l wx hx hl
  have HS := Lib.hid h
  have HLT := Lib.hid hlt
  clear h hlt
  by_cases hk : lchk l = 0
  · have HK := Lib.hid hk
    obtain ⟨hk1, hk2⟩ := lchk_ok.1 hk
    have HFO := Lib.hid hk2
    rw [hk] at HC
    rw [if_pos hk, hk]
    clear hk hk2
    go_enter Tryd.func61, Tryd.ntmps61
    go_wp2_with fail
    refine (HC.out _ HS.out).mono ?_
    rintro e w1 ⟨rfl, hb1⟩
    go_wp2_with fail
    have HB1 := Lib.hid hb1
    clear hb1
    go_loopw [5, 15] (fun ov iv wr => ∃ i : Nat, i ≤ l.length ∧ iv = .int .i64 (i : Int) ∧ Below w.heap.size w wr ∧ wr.ownsRow w.heap.size 5 1 ov (pk (l.take i)).length ((pk (l.take i)).map bV)) (fun _ iv _ => l.length - (intOf iv).toNat)
    case atStart => exact ⟨0, by omega, rfl, HB1.out, World.ownsRow_nil _ _ _ _⟩
    case round =>
      obtain ⟨i, hi, rfl, hbr, hown⟩ := hrel
      have HBR := Lib.hid hbr
      have HOWN := Lib.hid hown
      clear HB1 hbr hown
      have hw0 : w.heap.size ≤ wr.heap.size := HBR.out.size
      by_cases hlt : i < l.length
      · have m1 : (i : Int) < (l.length : Int) := by omega
        obtain ⟨g, off, rfl, hg, hr⟩ := (HS.out.below HBR.out) i hlt
        have HST : Hid (pk (l.take (i + 1)) = pk (l.take i) ++ pk1 l[i]) := by show _ = _; rw [List.take_succ_eq_append_getElem hlt, pk_snoc]
        have HLEN : Hid ((pk (l.take i)).length ≤ 12288) := by show _ ≤ _; have := pk_length (l.take i); rw [List.length_take] at this; omega
        have hf := HFO.out _ (List.getElem_mem hlt)
        have hlt8 := HLT.out _ (List.getElem_mem hlt)
        generalize l[i] = t at *
        obtain ⟨ta, tb, tc⟩ := t
        have r0 : wr.cell? ⟨g, off + i * 3, none⟩ = some (.int .u8 (ta : Int)) := hr 0 _ rfl
        have r1 : wr.cell? ⟨g, off + i * 3 + 1, none⟩ = some (.int .i64 tb) := hr 1 _ rfl
        have r2 : wr.cell? ⟨g, off + i * 3 + 2, none⟩ = some (.int .i64 tc) := hr 2 _ rfl
        have HBA := Lib.hid (Below.alloc HBR.out HBR.out.size (.cells #[.int .u8 (ta : Int), .int .i64 tb, .int .i64 tc] 173))
        generalize pk (l.take i) = acc at *
        clear hr hg
        unfold formed at hf
        simp only at hf
        by_cases h0 : tb = 0
        · have f0 : (tb == 0) = true := beq_iff_eq.2 h0
          have HP : Hid (pk1 (ta, tb, tc) = [0, ta]) := by show _ = _; simp [pk1, h0]
          clear hf h0
          have D1 := Lib.hid (cells_new_at (wr.alloc (.cells #[.int .u8 (ta : Int), .int .i64 tb, .int .i64 tc] 173)) (wr.heap.size + 1) (by simp) #[.int .u8 0, .int .u8 (ta : Int)] 5 [.int .u8 0, .int .u8 (ta : Int)] rfl)
          have D2 : Hid (∀ u ∈ ([.int .u8 0, .int .u8 (ta : Int)] : List Value), u.oneCell' = true) := by intro u hu; simp only [List.mem_cons, List.not_mem_nil, or_false] at hu; rcases hu with rfl | rfl <;> rfl
          have D3 : Hid (acc.length + 2 ≤ maxLen) := by show _ ≤ _; have := HLEN.out; unfold maxLen; omega
          have D4 : Hid ((acc.length + 2) * 1 ≤ 140737488355328) := by show _ ≤ _; have := HLEN.out; omega
          have D5 : Hid (w.heap.size ≤ ((wr.alloc (.cells #[.int .u8 (ta : Int), .int .i64 tb, .int .i64 tc] 173)).alloc (.cells #[.int .u8 0, .int .u8 (ta : Int)] 5)).heap.size) := by show _ ≤ _; simp; omega
          go_wp2_with (at_builtin; refine wpList_append_own _ rfl _ _ 92 rfl w.heap.size 5 i0 (.int .u8 0) 1 1 Tryd.underlying92 hi0 hz0 hz1 hz2 rfl (by decide) _ _ _ rfl ((HOWN.out.alloc _).alloc _) ⟨wr.heap.size + 1, 0, none⟩ 2 2 [.int .u8 0, .int .u8 (ta : Int)] rfl rfl D1.out D2.out D3.out D4.out D5.out ?_)
          intro v' w1 hown' hgrow _
          have BW := Lib.hid (below_own (HBA.out.alloc HBA.out.size _) hgrow (by simp; omega) ((HOWN.out.alloc _).alloc _) (Nat.le_refl _))
          have OW : Hid (w1.ownsRow w.heap.size 5 1 v' (pk (l.take (i + 1))).length ((pk (l.take (i + 1))).map bV)) := by
            show w1.ownsRow _ _ _ _ _ _
            rw [HST.out, HP.out, List.length_append, List.map_append]
            exact hown'
          clear hown' hgrow
          go_wp2_with fail
          go_roundw
          case rel => exact ⟨i + 1, by omega, by go_num, BW.out, OW.out⟩
          case measure => simp [intOf]; omega
        · rw [if_neg h0] at hf
          obtain ⟨c0, c1, c2, c3, c4⟩ := of_decide_eq_true hf
          obtain ⟨nb, rfl⟩ := Int.eq_ofNat_of_zero_le (show 0 ≤ tb by omega)
          have HP : Hid ((pk1 (ta, (nb : Int), tc)).map bV = [.int .u8 (nb : Int), .int .u8 (tc % 256), .int .u8 (tc / 256)]) := by
            show _ = _
            unfold pk1
            rw [if_neg h0]
            simp only [List.map_cons, List.map_nil, bV, List.cons.injEq, Value.int.injEq, true_and, and_true]
            omega
          have HP2 : Hid ((pk1 (ta, (nb : Int), tc)).length = 3) := by show _ = _; unfold pk1; rw [if_neg h0]; rfl
          subst c0
          have f0 : ((nb : Int) == 0) = false := beq_eq_false_iff_ne.2 h0
          clear hf h0
          have D1 := Lib.hid (cells_new_at (wr.alloc (.cells #[.int .u8 0, .int .i64 (nb : Int), .int .i64 tc] 173)) (wr.heap.size + 1) (by simp) #[.int .u8 (nb : Int), .int .u8 (tc % 256), .int .u8 (tc / 256)] 5 [.int .u8 (nb : Int), .int .u8 (tc % 256), .int .u8 (tc / 256)] rfl)
          have D2 : Hid (∀ u ∈ ([.int .u8 (nb : Int), .int .u8 (tc % 256), .int .u8 (tc / 256)] : List Value), u.oneCell' = true) := by intro u hu; simp only [List.mem_cons, List.not_mem_nil, or_false] at hu; rcases hu with rfl | rfl | rfl <;> rfl
          have D3 : Hid (acc.length + 3 ≤ maxLen) := by show _ ≤ _; have := HLEN.out; unfold maxLen; omega
          have D4 : Hid ((acc.length + 3) * 1 ≤ 140737488355328) := by show _ ≤ _; have := HLEN.out; omega
          have D5 : Hid (w.heap.size ≤ ((wr.alloc (.cells #[.int .u8 0, .int .i64 (nb : Int), .int .i64 tc] 173)).alloc (.cells #[.int .u8 (nb : Int), .int .u8 (tc % 256), .int .u8 (tc / 256)] 5)).heap.size) := by show _ ≤ _; simp; omega
          go_wp2_with (at_builtin; refine wpList_append_own _ rfl _ _ 92 rfl w.heap.size 5 i0 (.int .u8 0) 1 1 Tryd.underlying92 hi0 hz0 hz1 hz2 rfl (by decide) _ _ _ rfl ((HOWN.out.alloc _).alloc _) ⟨wr.heap.size + 1, 0, none⟩ 3 3 [.int .u8 (nb : Int), .int .u8 (tc % 256), .int .u8 (tc / 256)] rfl rfl D1.out D2.out D3.out D4.out D5.out ?_)
          intro v' w1 hown' hgrow _
          have BW := Lib.hid (below_own (HBA.out.alloc HBA.out.size _) hgrow (by simp; omega) ((HOWN.out.alloc _).alloc _) (Nat.le_refl _))
          have OW : Hid (w1.ownsRow w.heap.size 5 1 v' (pk (l.take (i + 1))).length ((pk (l.take (i + 1))).map bV)) := by
            show w1.ownsRow _ _ _ _ _ _
            rw [HST.out, List.length_append, List.map_append, HP.out, HP2.out]
            exact hown'
          clear hown' hgrow
          go_wp2_with fail
          go_roundw
          case rel => exact ⟨i + 1, by omega, by go_num, BW.out, OW.out⟩
          case measure => simp [intOf]; omega
      · have m1 : ¬ (i : Int) < (l.length : Int) := by omega
        have hA : l.take i = l := List.take_of_length_le (by omega)
        rw [hA] at HOWN
        have hcv := run_string_own (P := Tryd.prog) wr 92 5 9 Tryd.underlying92 Tryd.underlying5 Tryd.underlying9 (pk_lt l HLT.out) HOWN.out
        go_wp2_with fail
        go_ret2
        exact ⟨rfl, HBR.out⟩
  · have HK : Hid (((lchk l : Nat) : Int) ≠ 0) := by show _ ≠ _; omega
    have f1 : (((lchk l : Nat) : Int) != 0) = true := by simpa using HK.out
    rw [if_neg hk]
    generalize lchk l = c at *
    go_enter Tryd.func61, Tryd.ntmps61
    go_wp2_with fail
    refine (HC.out _ HS.out).mono ?_
    rintro e w1 ⟨rfl, hb1⟩
    go_wp2_with fail
    go_ret2
    exact ⟨rfl, hb1⟩
end Go.Proofs.YtbfhhnpoogmlnaaDoor
namespace Go.Proofs.YtbfhhnpoogmlnaaDoor
open Go.RowKit Plain
namespace Plain
/-- what Expand answers -/
def xr (most : Int) (l : List Tok) : Nat × List Nat := if most < 0 ∨ 4096 < most then (1, []) else if lchk l ≠ 0 then (lchk l, []) else ex most.toNat l
theorem xs_form {m : Nat} {r : Nat × List Nat} {t : Tok} {o : List Nat} (h : r = (0, o)) (h1 : (o.length : Int) < t.2.2) : xs m r t = (4, []) := by subst h; unfold xs; rw [if_neg (by simp), if_pos h1]
theorem xs_large {m : Nat} {r : Nat × List Nat} {t : Tok} {o : List Nat} (h : r = (0, o)) (h1 : ¬ (o.length : Int) < t.2.2) (h2 : (m : Int) < o.length + max t.2.1 1) : xs m r t = (2, []) := by subst h; unfold xs; rw [if_neg (by simp), if_neg h1, if_pos h2]
theorem xs_more {m : Nat} {r : Nat × List Nat} {t : Tok} {o : List Nat} (h : r = (0, o)) (h1 : ¬ (o.length : Int) < t.2.2) (h2 : ¬ (m : Int) < o.length + max t.2.1 1) : xs m r t = (0, put1 t o) := by subst h; unfold xs; rw [if_neg (by simp), if_neg h1, if_neg h2]
theorem ex_stop {m : Nat} {l : List Tok} {i : Nat} (hi : i < l.length) (k : Nat) (hk : k ≠ 0) (h : xs m (ex m (l.take i)) l[i] = (k, [])) : ex m l = (k, []) := by
  have e : l = l.take (i + 1) ++ l.drop (i + 1) := (List.take_append_drop _ _).symm
  have h2 : ex m (l.take (i + 1)) = (k, []) := by rw [List.take_succ_eq_append_getElem hi, ex_snoc, h]
  have h3 := ex_err (most := m) (l.take (i + 1)) (l.drop (i + 1)) (by rw [h2]; exact hk)
  rw [← e] at h3
  rw [h3, h2]
theorem ex_next {m : Nat} {l : List Tok} {i : Nat} (hi : i < l.length) {o : List Nat} (h : xs m (ex m (l.take i)) l[i] = (0, o)) : ex m (l.take (i + 1)) = (0, o) := by
  rw [List.take_succ_eq_append_getElem hi, ex_snoc, h]
end Plain
/-- what Expand leaves -/
def XEnd (w0 : World) (R : Nat × List Nat) (e : Ending) (w : World) : Prop := e = .returned (.tuple #[.string (strOf R.2), .int .i64 (R.1 : Nat)]) ∧ Below w0.heap.size w0 w
set_option maxRecDepth 100000 in
theorem expand_arg (a : Option Addr) (cap : Nat) (l : List Tok) (most : Int) (w : World) (h : most < 0 ∨ 4096 < most) : Calls Tryd.prog 118 #[.slice a l.length cap, .int .i64 most] w (XEnd w (xr most l)) := by
  have e : xr most l = (1, []) := by unfold xr; rw [if_pos h]
  rw [e]
  rcases h with h | h
  · have h1 : most < 0 := h
    go_enter Tryd.func118, Tryd.ntmps118
    go_wp2
    go_ret2
    exact ⟨rfl, Below.refl _ _⟩
  · have h1 : ¬ most < 0 := by omega
    have h2 : 4096 < most := h
    go_enter Tryd.func118, Tryd.ntmps118
    go_wp2
    go_ret2
    exact ⟨rfl, Below.refl _ _⟩
set_option maxRecDepth 100000 in
theorem expand_chk (a : Option Addr) (cap : Nat) (l : List Tok) (most : Nat) (w : World) (hm : most ≤ 4096) (h : SAt 3 tC w a l) (hl : l.length ≤ 9223372036854775807) (hk : lchk l ≠ 0) : Calls Tryd.prog 118 #[.slice a l.length cap, .int .i64 (most : Int)] w (XEnd w (xr most l)) := by
  have e : xr most l = (lchk l, []) := by unfold xr; rw [if_neg (by omega), if_pos hk]
  rw [e]
  have HC := Lib.hid fun wx (hx : SAt 3 tC wx a l) => check_any a cap l wx hx hl
  have HS := Lib.hid h
  have h1 : ¬ (most : Int) < 0 := by omega
  have h2 : ¬ 4096 < (most : Int) := by omega
  have f1 : (((lchk l : Nat) : Int) != 0) = true := by simpa using hk
  clear h e hk
  generalize lchk l = c at *
  go_enter Tryd.func118, Tryd.ntmps118
  go_wp2_with fail
  refine (HC.out _ HS.out).mono ?_
  rintro e w1 ⟨rfl, hb1⟩
  go_wp2_with fail
  go_ret2
  exact ⟨rfl, hb1⟩
theorem own_some {w : World} {base : Nat} {t : TypeId} {k n c : Nat} {a : Option Addr} {xs : List Value} (h : w.ownsRow base t k (.slice a n c) n xs) (hn : 0 < n) : ∃ g, a = some ⟨g, 0, none⟩ := by
  rcases h.2 with ⟨_, h0⟩ | ⟨g, cap, cur, hv, _⟩
  · omega
  · injection hv with hv
    exact ⟨g, hv⟩
theorem own_ne {w : World} {base : Nat} {t t' : TypeId} {k n g : Nat} {v : Value} {xs : List Value} {cs : Array Value} (h : w.ownsRow base t k v n xs) (hg : w.heap[g]? = some (.cells cs t' (0, 0))) (ht : t ≠ t') : some g ≠ v.ownBlock := by
  rcases h.2 with ⟨rfl, _⟩ | ⟨g', cap, cur, rfl, _, hh, _⟩
  · simp [Value.ownBlock]
  · intro he
    have : g = g' := by simpa [Value.ownBlock] using he
    subst this
    rw [hh] at hg
    injection hg with hg
    injection hg with _ hg
    exact ht hg
set_option maxRecDepth 100000 in
set_option maxHeartbeats 4000000 in
theorem expand_ok (a : Option Addr) (cap : Nat) (l : List Tok) (most : Nat) (w : World) (hm : most ≤ 4096) (h : SAt 3 tC w a l) (hl : l.length ≤ 9223372036854775807) (hlt : ∀ t ∈ l, t.1 < 256) (hk : lchk l = 0) : Calls Tryd.prog 118 #[.slice a l.length cap, .int .i64 (most : Int)] w (XEnd w (ex most l)) := by
  obtain ⟨i0, hi0, hz0, hz1, hz2⟩ := info_parts info_u8
  have HC := Lib.hid fun wx (hx : SAt 3 tC wx a l) => check_any a cap l wx hx hl
  rw [hk] at HC
  obtain ⟨hk1, hk2⟩ := lchk_ok.1 hk
  have HFO := Lib.hid hk2
  have HLT := Lib.hid hlt
  have HS := Lib.hid h
  have h1 : ¬ (most : Int) < 0 := by omega
  have h2 : ¬ 4096 < (most : Int) := by omega
  clear h hk hk2 hlt
  go_enter Tryd.func118, Tryd.ntmps118
  go_wp2_with fail
  refine (HC.out _ HS.out).mono ?_
  rintro e w1 ⟨rfl, hb1⟩
  have HB1 := Lib.hid hb1
  clear hb1
  go_wp2_with fail
  go_loopw [7, 23] (fun ov iv wr => ∃ (i : Nat) (o : List Nat) (oa : Option Addr) (oc : Nat), iv = .int .i64 (i : Int) ∧ i ≤ l.length ∧ ov = .slice oa o.length oc ∧ wr.ownsRow w.heap.size 5 1 (.slice oa o.length oc) o.length (o.map bV) ∧ Below w.heap.size w wr ∧ ex most (l.take i) = (0, o) ∧ o.length ≤ most ∧ ∀ c ∈ o, c < 256) (fun _ iv _ => l.length - (intOf iv).toNat)
  case atStart => exact ⟨0, [], none, 0, rfl, by omega, rfl, World.ownsRow_nil _ _ _ _, HB1.out, ex_nil _, by simp, by simp⟩
  case round =>
    obtain ⟨i, o, oa, oc, rfl, hi, rfl, hown, hbr, hex, hom, ho⟩ := hrel
    have HOWN := Lib.hid hown
    have HBR := Lib.hid hbr
    have HEX := Lib.hid hex
    have HO := Lib.hid ho
    clear HB1 hown hbr hex ho
    by_cases hil : i < l.length
    · have m1 : (i : Int) < (l.length : Int) := by omega
      obtain ⟨g, off, rfl, hg, hr⟩ := (HS.out.below HBR.out) i hil
      have HST := Lib.hid (fun k (hk : k ≠ 0) h => ex_stop (m := most) hil k hk h)
      have HNX := Lib.hid (fun o' h => ex_next (m := most) hil (o := o') h)
      have hf := HFO.out _ (List.getElem_mem hil)
      have hlt8 := HLT.out _ (List.getElem_mem hil)
      generalize l[i] = t at *
      obtain ⟨ta, tb, tc⟩ := t
      have r0 : wr.cell? ⟨g, off + i * 3, none⟩ = some (.int .u8 (ta : Int)) := hr 0 _ rfl
      have r1 : wr.cell? ⟨g, off + i * 3 + 1, none⟩ = some (.int .i64 tb) := hr 1 _ rfl
      have r2 : wr.cell? ⟨g, off + i * 3 + 2, none⟩ = some (.int .i64 tc) := hr 2 _ rfl
      have HBA := Lib.hid (Below.alloc HBR.out HBR.out.size (.cells #[.int .u8 (ta : Int), .int .i64 tb, .int .i64 tc] 173))
      clear hr hg
      by_cases hd : (o.length : Int) < tc
      · have HR : Hid (ex most l = (4, [])) := HST.out 4 (by decide) (xs_form HEX.out hd)
        clear hf
        go_wp2_with fail
        go_ret2
        exact ⟨by rw [HR.out]; rfl, HBA.out⟩
      · have HPL : Hid (¬ (most : Int) < o.length + max tb 1 → ex most (l.take (i + 1)) = (0, put1 (ta, tb, tc) o)) := fun h => HNX.out _ (xs_more HEX.out hd h)
        by_cases hb : (most : Int) < o.length + max tb 1
        · have HR : Hid (ex most l = (2, [])) := HST.out 2 (by decide) (xs_large HEX.out hd hb)
          unfold Plain.formed at hf
          have hmx : max tb 1 ≤ 255 := by
            simp only at hf
            split at hf
            · omega
            · have := of_decide_eq_true hf; omega
          have hmx2 : 1 ≤ max tb 1 := by omega
          clear hf
          go_wp2_with fail
          go_ret2
          exact ⟨by rw [HR.out]; rfl, HBA.out⟩
        · have HNEW := Lib.hid (HPL.out hb)
          unfold Plain.formed at hf
          simp only at hf
          by_cases h0 : tb = 0
          · rw [if_pos h0] at hf
            have hc0 := of_decide_eq_true hf
            subst h0
            subst hc0
            clear hf
            have hlt9 : o.length + 1 ≤ most := by omega
            have hw0 : w.heap.size ≤ wr.heap.size := HBR.out.size
            have D1 := Lib.hid (cells_new_at (wr.alloc (.cells #[.int .u8 (ta : Int), .int .i64 0, .int .i64 0] 173)) (wr.heap.size + 1) (by simp) #[.int .u8 (ta : Int)] 5 [.int .u8 (ta : Int)] rfl)
            have D2 : Hid (∀ u ∈ ([.int .u8 (ta : Int)] : List Value), u.oneCell' = true) := by intro u hu; simp only [List.mem_cons, List.not_mem_nil, or_false] at hu; rcases hu with rfl; rfl
            have D3 : Hid (o.length + 1 ≤ maxLen) := by show _ ≤ _; unfold maxLen; omega
            have D4 : Hid ((o.length + 1) * 1 ≤ 140737488355328) := by show _ ≤ _; omega
            have D5 : Hid (w.heap.size ≤ ((wr.alloc (.cells #[.int .u8 (ta : Int), .int .i64 0, .int .i64 0] 173)).alloc (.cells #[.int .u8 (ta : Int)] 5)).heap.size) := by show _ ≤ _; simp; omega
            go_wp2_with (at_builtin; refine wpList_append_own _ rfl _ _ 92 rfl w.heap.size 5 i0 (.int .u8 0) 1 1 Tryd.underlying92 hi0 hz0 hz1 hz2 rfl (by decide) _ _ _ rfl ((HOWN.out.alloc _).alloc _) ⟨wr.heap.size + 1, 0, none⟩ 1 1 [.int .u8 (ta : Int)] rfl rfl D1.out D2.out D3.out D4.out D5.out ?_)
            intro v' w2 hown' hgrow _
            have BW := Lib.hid (below_own (HBA.out.alloc HBA.out.size _) hgrow (by simp; omega) ((HOWN.out.alloc _).alloc _) (Nat.le_refl _))
            obtain ⟨oa3, oc3, rfl⟩ := own_form hown'
            have OW : Hid (w2.ownsRow w.heap.size 5 1 (.slice oa3 (o ++ [ta]).length oc3) (o ++ [ta]).length ((o ++ [ta]).map bV)) := by
              show w2.ownsRow _ _ _ _ _ _
              rw [List.length_append, List.map_append]
              exact hown'
            have HROW := (hgrow.block wr.heap.size (by simp; omega) (fun e => by have := HOWN.out.lt _ e.symm; omega)).trans ((Below.heap_alloc _ _ _ (by simp)).trans (heap_alloc_new wr (.cells #[.int .u8 (ta : Int), .int .i64 0, .int .i64 0] 173)))
            have q0 := cell_of_row w2 wr.heap.size 0 _ _ _ HROW
            have q1 := cell_of_row w2 wr.heap.size 1 _ _ _ HROW
            have q2 := cell_of_row w2 wr.heap.size 2 _ _ _ HROW
            simp only [List.getElem?_toArray, List.getElem?_cons_zero, List.getElem?_cons_succ] at q0 q1 q2
            clear hown' hgrow HROW
            go_wp2_with fail
            have HP1 : Hid (put1 (ta, 0, 0) o = o ++ [ta]) := rfl
            have HO1 : Hid (∀ c ∈ o ++ [ta], c < 256) := fun c hc => by
              rcases List.mem_append.1 hc with hc | hc
              · exact HO.out c hc
              · simp only [List.mem_singleton] at hc
                subst hc
                exact hlt8
            have hlen : (o ++ [ta]).length = o.length + 1 := by simp
            have HLEN := Lib.hid hlen
            clear hlen
            go_loopw [7, 50] (fun ov jv wq => jv = .int .i64 0 ∧ ov = .slice oa3 (o ++ [ta]).length oc3 ∧ wq = w2) (fun _ _ _ => 0)
            case atStart => exact ⟨rfl, by rw [HLEN.out], rfl⟩
            case round =>
              obtain ⟨rfl, rfl, rfl⟩ := hrel
              go_wp2_with fail
              go_roundw
              case rel => exact ⟨i + 1, o ++ [ta], oa3, oc3, by go_num, by omega, rfl, OW.out, BW.out, by rw [← HP1.out]; exact HNEW.out, by rw [HLEN.out]; exact hlt9, HO1.out⟩
              case measure => simp [intOf]; omega
          · rw [if_neg h0] at hf
            obtain ⟨c0, c1, c2, c3, c4⟩ := of_decide_eq_true hf
            obtain ⟨nb, rfl⟩ := Int.eq_ofNat_of_zero_le (show 0 ≤ tb by omega)
            obtain ⟨nd, rfl⟩ := Int.eq_ofNat_of_zero_le (show 0 ≤ tc by omega)
            subst c0
            have f0 : ((nb : Int) == 0) = false := beq_eq_false_iff_ne.2 h0
            have hmx : max (nb : Int) 1 = (nb : Int) := by omega
            rw [hmx] at hb
            clear hf h0
            go_wp2_with fail
            have HROW := Lib.hid (heap_alloc_new wr (.cells #[.int .u8 0, .int .i64 (nb : Int), .int .i64 (nd : Int)] 173))
            have HO2 := Lib.hid (HOWN.out.alloc (.cells #[.int .u8 0, .int .i64 (nb : Int), .int .i64 (nd : Int)] 173))
            have hbt : wr.heap.size < (wr.alloc (.cells #[.int .u8 0, .int .i64 (nb : Int), .int .i64 (nd : Int)] 173)).heap.size := by simp
            generalize wr.alloc (.cells #[.int .u8 0, .int .i64 (nb : Int), .int .i64 (nd : Int)] 173) = wa at *
            generalize wr.heap.size = bt at *
            have HNB : Hid (o.length + nb ≤ most) := by show _ ≤ _; omega
            go_loopw [7, 50] (fun ov jv wq => ∃ (j : Nat) (p : List Nat) (oa2 : Option Addr) (oc2 : Nat), jv = .int .i64 (j : Int) ∧ j ≤ nb ∧ p = cp j nd o ∧ ov = .slice oa2 p.length oc2 ∧ wq.ownsRow w.heap.size 5 1 (.slice oa2 p.length oc2) p.length (p.map bV) ∧ Below w.heap.size w wq ∧ wq.heap[bt]? = some (.cells #[.int .u8 0, .int .i64 (nb : Int), .int .i64 (nd : Int)] 173 (0, 0))) (fun _ jv _ => nb - (intOf jv).toNat)
            case atStart => exact ⟨0, o, oa, oc, rfl, by omega, rfl, rfl, HO2.out, HBA.out, HROW.out⟩
            case round =>
              obtain ⟨j, p, oa2, oc2, rfl, hj, hp, rfl, hoq, hbq, hrq⟩ := hrel
              have HP := Lib.hid hp
              have HOQ := Lib.hid hoq
              have HBQ := Lib.hid hbq
              have HRQ := Lib.hid hrq
              have q0 := cell_of_row wr bt 0 _ _ _ hrq
              have q1 := cell_of_row wr bt 1 _ _ _ hrq
              have q2 := cell_of_row wr bt 2 _ _ _ hrq
              simp only [List.getElem?_toArray, List.getElem?_cons_zero, List.getElem?_cons_succ] at q0 q1 q2
              have hpl : p.length = o.length + j := by rw [hp, cp_length]
              have hp1 : nd ≤ p.length := by omega
              have hp2 : p.length ≤ 4096 := by have := HNB.out; omega
              have hp3 : 0 < p.length := by omega
              have hw0 : w.heap.size ≤ wr.heap.size := HBQ.out.size
              clear hp hoq hbq hrq
              by_cases hjn : j < nb
              · have m2 : (j : Int) < (nb : Int) := by omega
                obtain ⟨g2, rfl⟩ := own_some HOQ.out hp3
                have hb' : wr.cell? ⟨g2, p.length - nd, none⟩ = some (.int .u8 ((p.getD (p.length - nd) 0 : Nat) : Int)) := by
                  rw [HOQ.out.cellAt (p.length - nd) (by omega), List.getElem?_map, List.getElem?_eq_getElem (by omega), List.getD_eq_getElem?_getD, List.getElem?_eq_getElem (by omega)]
                  rfl
                have HSN : Hid (cp (j + 1) nd o = p ++ [p.getD (p.length - nd) 0]) := by show _ = _; rw [cp_snoc, ← HP.out]
                generalize p.getD (p.length - nd) 0 = b at *
                clear hpl
                have D1 := Lib.hid (cells_new_at wr (wr.heap.size) (rfl) #[.int .u8 (b : Int)] 5 [.int .u8 (b : Int)] rfl)
                have D2 : Hid (∀ u ∈ ([.int .u8 (b : Int)] : List Value), u.oneCell' = true) := by intro u hu; simp only [List.mem_cons, List.not_mem_nil, or_false] at hu; rcases hu with rfl; rfl
                have D3 : Hid (p.length + 1 ≤ maxLen) := by show _ ≤ _; unfold maxLen; omega
                have D4 : Hid ((p.length + 1) * 1 ≤ 140737488355328) := by show _ ≤ _; omega
                have D5 : Hid (w.heap.size ≤ (wr.alloc (.cells #[.int .u8 (b : Int)] 5)).heap.size) := by show _ ≤ _; simp; omega
                go_wp2_with (at_builtin; refine wpList_append_own _ rfl _ _ 92 rfl w.heap.size 5 i0 (.int .u8 0) 1 1 Tryd.underlying92 hi0 hz0 hz1 hz2 rfl (by decide) _ _ _ rfl (HOQ.out.alloc _) ⟨wr.heap.size, 0, none⟩ 1 1 [.int .u8 (b : Int)] rfl rfl D1.out D2.out D3.out D4.out D5.out ?_)
                intro v' w2 hown' hgrow _
                have BW := Lib.hid (below_own (HBQ.out.alloc HBQ.out.size _) hgrow (by simp; omega) (HOQ.out.alloc _) (Nat.le_refl _))
                obtain ⟨oa3, oc3, rfl⟩ := own_form hown'
                have OW : Hid (w2.ownsRow w.heap.size 5 1 (.slice oa3 (p ++ [b]).length oc3) (p ++ [b]).length ((p ++ [b]).map bV)) := by
                  show w2.ownsRow _ _ _ _ _ _
                  rw [List.length_append, List.map_append]
                  exact hown'
                have HR2 := Lib.hid ((hgrow.block bt (by have := lt_of_block HRQ.out; simp; omega) (own_ne (HOQ.out.alloc (.cells #[.int .u8 (b : Int)] 5)) ((Below.heap_alloc wr (.cells #[.int .u8 (b : Int)] 5) bt (lt_of_block HRQ.out)).trans HRQ.out) (by decide))).trans ((Below.heap_alloc wr (.cells #[.int .u8 (b : Int)] 5) bt (lt_of_block HRQ.out)).trans HRQ.out))
                clear hown' hgrow
                go_wp2_with fail
                go_roundw
                case rel => exact ⟨j + 1, p ++ [b], oa3, oc3, by go_num, by omega, HSN.out.symm, by rw [List.length_append]; rfl, OW.out, BW.out, HR2.out⟩
                case measure => simp [intOf]; omega
              · obtain rfl : j = nb := by omega
                have m2 : ¬ (j : Int) < (j : Int) := by omega
                have HP1 : Hid (put1 (0, (j : Int), (nd : Int)) o = p) := by
                  show _ = _
                  unfold put1
                  rw [if_neg (by simp; omega)]
                  simp only [Int.toNat_natCast]
                  exact HP.out.symm
                have HO1 : Hid (∀ c ∈ p, c < 256) := by rw [HP.out]; exact cp_lt _ _ _ HO.out
                go_wp2_with fail
                go_roundw
                case rel => exact ⟨i + 1, p, oa2, oc2, by go_num, by omega, rfl, HOQ.out, HBQ.out, by rw [← HP1.out]; exact HNEW.out, by rw [hpl]; exact HNB.out, HO1.out⟩
                case measure => simp [intOf]; omega
    · have m1 : ¬ (i : Int) < (l.length : Int) := by omega
      have hA : l.take i = l := List.take_of_length_le (by omega)
      have hcv := run_string_own (P := Tryd.prog) wr 92 5 9 Tryd.underlying92 Tryd.underlying5 Tryd.underlying9 HO.out HOWN.out
      rw [hA] at HEX
      clear hA
      go_wp2_with fail
      go_ret2
      exact ⟨by rw [HEX.out]; rfl, HBR.out⟩
end Go.Proofs.YtbfhhnpoogmlnaaDoor
namespace Go.Proofs.YtbfhhnpoogmlnaaDoor
open Go.RowKit Plain
namespace Plain
/-- the longest copy among the distances below e -/
def BestTo (s : List Nat) (a e L d : Nat) : Prop :=
  L ≤ 255 ∧ a + L ≤ s.length ∧ (0 < L → 1 ≤ d ∧ d ≤ 1024 ∧ d ≤ a ∧ mt s a d L) ∧ (L = 0 → d = 0) ∧ ∀ f m, 1 ≤ f → f < e → f ≤ 1024 → f ≤ a → m ≤ 255 → a + m ≤ s.length → mt s a f m → m ≤ L
theorem BestTo.start {s : List Nat} {a : Nat} (h : a ≤ s.length) : BestTo s a 1 0 0 := ⟨by omega, h, fun h => absurd h (by omega), fun _ => rfl, fun f m h1 h2 => by omega⟩
theorem BestTo.done {s : List Nat} {a e L d : Nat} (h : BestTo s a e L d) (h1 : 1024 < e ∨ a < e ∨ 255 ≤ L ∨ s.length ≤ a + L) : Best s a L d :=
  ⟨h.1, h.2.1, h.2.2.1, h.2.2.2.1, fun f m a1 a2 a3 a4 a5 a6 => by
    rcases h1 with h1 | h1 | h1 | h1
    · exact h.2.2.2.2 f m a1 (by omega) a2 a3 a4 a5 a6
    · exact h.2.2.2.2 f m a1 (by omega) a2 a3 a4 a5 a6
    · omega
    · omega⟩
theorem mt_lt {s : List Nat} {a d n m : Nat} (hn : ¬ s.getD (a + n) 0 = s.getD (a + n - d) 0) (h : mt s a d m) : m ≤ n := by
  rcases Nat.lt_or_ge n m with h1 | h1
  · exact absurd (h n h1) hn
  · exact h1
theorem BestTo.keep {s : List Nat} {a e L d n : Nat} (h : BestTo s a e L d) (hle : n ≤ L) (hmax : ∀ m, m ≤ 255 → a + m ≤ s.length → mt s a e m → m ≤ n) : BestTo s a (e + 1) L d :=
  ⟨h.1, h.2.1, h.2.2.1, h.2.2.2.1, fun f m a1 a2 a3 a4 a5 a6 a7 => by
    by_cases hf : f = e
    · subst hf; exact Nat.le_trans (hmax m a5 a6 a7) hle
    · exact h.2.2.2.2 f m a1 (by omega) a3 a4 a5 a6 a7⟩
theorem BestTo.turn {s : List Nat} {a e L d n : Nat} (h : BestTo s a e L d) (hlt : L < n) (hn : n ≤ 255) (hs : a + n ≤ s.length) (h1 : 1 ≤ e) (h2 : e ≤ 1024) (h3 : e ≤ a) (hm : mt s a e n) (hmax : ∀ m, m ≤ 255 → a + m ≤ s.length → mt s a e m → m ≤ n) : BestTo s a (e + 1) n e :=
  ⟨hn, hs, fun _ => ⟨h1, h2, h3, hm⟩, fun h => by omega, fun f m a1 a2 a3 a4 a5 a6 a7 => by
    by_cases hf : f = e
    · subst hf; exact hmax m a5 a6 a7
    · have := h.2.2.2.2 f m a1 (by omega) a3 a4 a5 a6 a7
      omega⟩
end Plain
theorem info_tsz : (Tryd.prog.info? 173).map (·.size) = some 3 := by kernel_rfl
def tZ : Array Value := #[.int .u8 0, .int .i64 0, .int .i64 0]
theorem below_st {B : Nat} {w w1 : World} (h : Below B w w1) {b o : Nat} (v : Value) (hb : B ≤ b := by omega) : Below B w (w1.setCell ⟨b, o, none⟩ v) := h.setCell (p := ⟨b, o, none⟩) hb v
theorem st_other {w : World} {g : Nat} {o : Obj} (h : w.heap[g]? = some o) {b i : Nat} (hb : g ≠ b) (v : Value) : (w.setCell ⟨b, i, none⟩ v).heap[g]? = some o := (heap_setCell_other w ⟨b, i, none⟩ g v hb).trans h
theorem st_rowL {w : World} {g : Nat} {t : TypeId} {a0 a1 a2 v0 v1 v2 : Value} (h : w.heap[g]? = some (.cells #[a0, a1, a2] t (0, 0))) :
    (((w.setCell ⟨g, 0, none⟩ v0).setCell ⟨g, 1, none⟩ v1).setCell ⟨g, 2, none⟩ v2).heap[g]? = some (.cells #[v0, v1, v2] t (0, 0)) := by
  have h1 := heap_setCell_same w g 0 _ t v0 h
  have h2 := heap_setCell_same _ g 1 _ t v1 h1
  have h3 := heap_setCell_same _ g 2 _ t v2 h2
  rw [h3]
  rfl
set_option maxRecDepth 100000 in
set_option maxHeartbeats 2000000 in
theorem longest_any (s : ByteArray) (at_ : Nat) (w : World) (hat : at_ < s.size) (hs : s.size ≤ 4096) :
    Calls Tryd.prog 102 #[.string s, .int .i64 (at_ : Int)] w fun e w' => ∃ L d : Nat, e = .returned (.agg #[.int .u8 0, .int .i64 (L : Int), .int .i64 (d : Int)]) ∧ Best (strN s) at_ L d ∧ Below w.heap.size w w' := by
  have n1 : (at_ : Int) < (s.size : Int) := by omega
  go_enter Tryd.func102, Tryd.ntmps102
  go_wp2_with fail
  have hm : min (255 : Int) ((s.size : Int) - (at_ : Int)) = ((min 255 (s.size - at_) : Nat) : Int) := by omega
  rw [hm]
  obtain ⟨most, hmost⟩ : ∃ m, m = min 255 (s.size - at_) := ⟨_, rfl⟩
  rw [← hmost]
  have m1 : most ≤ 255 := by omega
  have m2 : at_ + most ≤ s.size := by omega
  have HM : Hid (255 ≤ most ∨ s.size ≤ at_ + most) := by show _ ∨ _; omega
  clear hm hmost
  have R0 : Hid (((w.alloc (.cells tZ 173)).alloc (.cells tZ 173)).heap[w.heap.size]? = some (.cells tZ 173 (0, 0))) := (Below.heap_alloc _ _ _ (by simp)).trans (heap_alloc_new w _)
  have R1 : Hid (((w.alloc (.cells tZ 173)).alloc (.cells tZ 173)).heap[w.heap.size + 1]? = some (.cells tZ 173 (0, 0))) := by
    show _ = _
    have := heap_alloc_new (w.alloc (.cells tZ 173)) (.cells tZ 173)
    rw [World.size_alloc] at this
    exact this
  have BW : Hid (Below w.heap.size w ((w.alloc (.cells tZ 173)).alloc (.cells tZ 173))) := ((Below.refl _ _).alloc (Nat.le_refl _) _).alloc (by simp) _
  show Code.wp _ _ _ _ ((w.alloc (.cells tZ 173)).alloc (.cells tZ 173))
  generalize ((w.alloc (.cells tZ 173)).alloc (.cells tZ 173)) = w1 at *
  go_loopw [7] (fun dv wr => ∃ d L D : Nat, dv = .int .i64 (d : Int) ∧ 1 ≤ d ∧ d ≤ 1025 ∧ Below w.heap.size w wr ∧ wr.heap[w.heap.size]? = some (.cells tZ 173 (0, 0)) ∧ wr.heap[w.heap.size + 1]? = some (.cells #[.int .u8 0, .int .i64 (L : Int), .int .i64 (D : Int)] 173 (0, 0)) ∧ L ≤ most ∧ BestTo (strN s) at_ d L D) (fun dv _ => 1025 - (intOf dv).toNat)
  case atStart => exact ⟨1, 0, 0, rfl, by omega, by omega, BW.out, R0.out, R1.out, by omega, BestTo.start (by rw [strN_length]; omega)⟩
  case round =>
    obtain ⟨d, L, D, rfl, hd1, hd2, hbr, hr0, hr1, hL, hbest⟩ := hrel
    clear R0 R1 BW
    have HBR := Lib.hid hbr
    have HR0 := Lib.hid hr0
    have HR1 := Lib.hid hr1
    have HBEST := Lib.hid hbest
    have s0 := cell_of_row wr (w.heap.size + 1) 0 _ _ _ hr1
    have s1 := cell_of_row wr (w.heap.size + 1) 1 _ _ _ hr1
    have s2 := cell_of_row wr (w.heap.size + 1) 2 _ _ _ hr1
    have f0 := frozen_of_row wr (w.heap.size + 1) 0 _ _ hr1
    have f1 := frozen_of_row wr (w.heap.size + 1) 1 _ _ hr1
    have f2 := frozen_of_row wr (w.heap.size + 1) 2 _ _ hr1
    have t0 := cell_of_row wr w.heap.size 0 _ _ _ hr0
    have t1 := cell_of_row wr w.heap.size 1 _ _ _ hr0
    have t2 := cell_of_row wr w.heap.size 2 _ _ _ hr0
    have g0 := frozen_of_row wr w.heap.size 0 _ _ hr0
    have g1 := frozen_of_row wr w.heap.size 1 _ _ hr0
    have g2 := frozen_of_row wr w.heap.size 2 _ _ hr0
    simp only [tZ, List.getElem?_toArray, List.getElem?_cons_zero, List.getElem?_cons_succ] at s0 s1 s2 t0 t1 t2
    clear hbr hr0 hr1 hbest
    by_cases hd : d ≤ 1024 ∧ d ≤ at_
    · by_cases hLm : L < most
      · obtain ⟨hda, hdb⟩ := hd
        have k1 : (d : Int) ≤ min 1024 (at_ : Int) := by omega
        have k2 : (L : Int) < (most : Int) := by omega
        -- INNER
        go_wp2_with fail
        clear s0 s1 s2 f0 f1 f2 t0 t1 t2 g0 g1 g2
        go_loopw [8] (fun nv wq => ∃ n : Nat, nv = .int .i64 (n : Int) ∧ n ≤ most ∧ Below w.heap.size w wq ∧ wq.heap[w.heap.size]? = some (.cells tZ 173 (0, 0)) ∧ wq.heap[w.heap.size + 1]? = some (.cells #[.int .u8 0, .int .i64 (L : Int), .int .i64 (D : Int)] 173 (0, 0)) ∧ mt (strN s) at_ d n) (fun nv _ => most - (intOf nv).toNat)
        case atStart => exact ⟨0, rfl, by omega, HBR.out, HR0.out, HR1.out, mt_zero _ _ _⟩
        case round =>
          obtain ⟨n, rfl, hn, hbq, hq0, hq1, hmt⟩ := hrel
          have HBQ := Lib.hid hbq
          have HQ0 := Lib.hid hq0
          have HQ1 := Lib.hid hq1
          have HMT := Lib.hid hmt
          have s0 := cell_of_row wr (w.heap.size + 1) 0 _ _ _ hq1
          have s1 := cell_of_row wr (w.heap.size + 1) 1 _ _ _ hq1
          have s2 := cell_of_row wr (w.heap.size + 1) 2 _ _ _ hq1
          have f0 := frozen_of_row wr (w.heap.size + 1) 0 _ _ hq1
          have f1 := frozen_of_row wr (w.heap.size + 1) 1 _ _ hq1
          have f2 := frozen_of_row wr (w.heap.size + 1) 2 _ _ hq1
          simp only [List.getElem?_toArray, List.getElem?_cons_zero, List.getElem?_cons_succ] at s0 s1 s2
          clear hbq hq0 hq1 hmt
          have w1' : IntKind.i64.wrap ((at_ : Int) + (n : Int)) = (at_ : Int) + (n : Int) := wraps_i64 _ (by omega) (by omega)
          have w2' : IntKind.i64.wrap ((at_ : Int) + (n : Int) - (d : Int)) = (at_ : Int) + (n : Int) - (d : Int) := wraps_i64 _ (by omega) (by omega)
          have w3' : ((at_ : Int) + (n : Int)).toNat = at_ + n := by omega
          have w4' : ((at_ : Int) + (n : Int) - (d : Int)).toNat = at_ + n - d := by omega
          have w5' : (0 : Int) ≤ (at_ : Int) + (n : Int) := by omega
          have w6' : (0 : Int) ≤ (at_ : Int) + (n : Int) - (d : Int) := by omega
          by_cases hnm : n < most
          · have k3 : (n : Int) < (most : Int) := by omega
            have i1 : at_ + n < s.size := by omega
            have i2 : at_ + n - d < s.size := by omega
            have w7' : (at_ : Int) + (n : Int) < (s.size : Int) := by omega
            have w8' : (at_ : Int) + (n : Int) - (d : Int) < (s.size : Int) := by omega
            have w9' : (d : Int) ≤ (at_ : Int) + (n : Int) := by omega
            have w10' : (at_ : Int) + (n : Int) < (s.size : Int) + (d : Int) := by omega
            have w11' : at_ + n - d < s.size := i2
            have b1 := byte_get s (at_ + n) i1
            have b2 := byte_get s (at_ + n - d) i2
            by_cases hb : (s[at_ + n]'i1).toNat = (s[at_ + n - d]'i2).toNat
            · have HS := Lib.hid (mt_succ HMT.out (by rw [← b1, ← b2]; exact hb))
              have k5 : ((((s[at_ + n]'i1).toNat : Nat) : Int) == (((s[at_ + n - d]'i2).toNat : Nat) : Int)) = true := natEq hb
              clear hb b1 b2
              go_wp2_with fail
              go_quiet (fail)
              clear w1' w2'
              go_wp2_with fail
              go_roundw
              case rel => exact ⟨n + 1, by go_num, by omega, below_dn HBQ.out _, HQ0.out, HQ1.out, HS.out⟩
              case measure => simp [intOf]; omega
            · have HMAX : Hid (∀ m, m ≤ 255 → at_ + m ≤ (strN s).length → mt (strN s) at_ d m → m ≤ n) := fun m _ _ h => mt_lt (by rw [← b1, ← b2]; exact hb) h
              have k5 : ((((s[at_ + n]'i1).toNat : Nat) : Int) == (((s[at_ + n - d]'i2).toNat : Nat) : Int)) = false := by rw [beq_eq_false_iff_ne]; omega
              clear hb b1 b2
              by_cases hgt : L < n
              · have k4 : (L : Int) < (n : Int) := by omega
                have HT := Lib.hid (HBEST.out.turn hgt (by omega) (by rw [strN_length]; omega) hd1 hda hdb HMT.out HMAX.out)
                go_wp2_with fail
                go_quiet (fail)
                clear w1' w2'
                go_wp2_with fail
                go_roundw
                case rel => exact ⟨d + 1, n, d, by go_num, by omega, by omega, below_st (below_st (below_st (below_dn HBQ.out _) _) _) _, st_other (st_other (st_other HQ0.out (by omega) _) (by omega) _) (by omega) _, st_rowL HQ1.out, by omega, HT.out⟩
                case measure => simp [intOf]; omega
              · have k4 : ¬ (L : Int) < (n : Int) := by omega
                have HK := Lib.hid (HBEST.out.keep (by omega) HMAX.out)
                go_wp2_with fail
                go_quiet (fail)
                clear w1' w2'
                go_wp2_with fail
                go_roundw
                case rel => exact ⟨d + 1, L, D, by go_num, by omega, by omega, below_dn HBQ.out _, HQ0.out, HQ1.out, by omega, HK.out⟩
                case measure => simp [intOf]; omega
          · obtain rfl : n = most := by omega
            have k3 : ¬ (n : Int) < (n : Int) := by omega
            have HMAX : Hid (∀ m, m ≤ 255 → at_ + m ≤ (strN s).length → mt (strN s) at_ d m → m ≤ n) := fun m h1 h2 _ => by rw [strN_length] at h2; rcases HM.out with h | h <;> omega
            by_cases hgt : L < n
            · have k4 : (L : Int) < (n : Int) := by omega
              have HT := Lib.hid (HBEST.out.turn hgt (by omega) (by rw [strN_length]; omega) hd1 hda hdb HMT.out HMAX.out)
              go_wp2_with fail
              go_quiet (fail)
              clear w1' w2'
              go_wp2_with fail
              go_roundw
              case rel => exact ⟨d + 1, n, d, by go_num, by omega, by omega, below_st (below_st (below_st (below_dn HBQ.out _) _) _) _, st_other (st_other (st_other HQ0.out (by omega) _) (by omega) _) (by omega) _, st_rowL HQ1.out, by omega, HT.out⟩
              case measure => simp [intOf]; omega
            · exact absurd hLm hgt
      · have k2 : ¬ (L : Int) < (most : Int) := by omega
        have HB2 := Lib.hid (HBEST.out.done (by rw [strN_length]; have := HM.out; omega))
        have k1 : (d : Int) ≤ min 1024 (at_ : Int) := by omega
        have hbf := Lib.hid (below_st (below_st (below_st HBR.out (b := w.heap.size) (o := 0) (.int .u8 0)) (b := w.heap.size) (o := 1) (.int .i64 (L : Int))) (b := w.heap.size) (o := 2) (.int .i64 (D : Int)))
        have hrow := Lib.hid (st_rowL HR0.out (v0 := .int .u8 0) (v1 := .int .i64 (L : Int)) (v2 := .int .i64 (D : Int)))
        go_wp2_with fail
        refine bodyPost_ret (v := .agg #[.int .u8 0, .int .i64 (L : Int), .int .i64 (D : Int)]) ?_ rfl ⟨L, D, rfl, HB2.out, hbf.out⟩
        exact results_row rfl _ _ w.heap.size 173 #[.int .u8 0, .int .i64 (L : Int), .int .i64 (D : Int)] (0, 0) _ rfl hrow.out Tryd.underlying173 rfl info_tsz
    · have k1 : ¬ (d : Int) ≤ min 1024 (at_ : Int) := by omega
      have HB2 := Lib.hid (HBEST.out.done (by omega))
      have hbf := Lib.hid (below_st (below_st (below_st HBR.out (b := w.heap.size) (o := 0) (.int .u8 0)) (b := w.heap.size) (o := 1) (.int .i64 (L : Int))) (b := w.heap.size) (o := 2) (.int .i64 (D : Int)))
      have hrow := Lib.hid (st_rowL HR0.out (v0 := .int .u8 0) (v1 := .int .i64 (L : Int)) (v2 := .int .i64 (D : Int)))
      go_wp2_with fail
      refine bodyPost_ret (v := .agg #[.int .u8 0, .int .i64 (L : Int), .int .i64 (D : Int)]) ?_ rfl ⟨L, D, rfl, HB2.out, hbf.out⟩
      exact results_row rfl _ _ w.heap.size 173 #[.int .u8 0, .int .i64 (L : Int), .int .i64 (D : Int)] (0, 0) _ rfl hrow.out Tryd.underlying173 rfl info_tsz
end Go.Proofs.YtbfhhnpoogmlnaaDoor
namespace Go.Proofs.YtbfhhnpoogmlnaaDoor
open Go.RowKit Plain
theorem greedy_large (s : ByteArray) (w : World) (hs : 4096 < s.size) :
    Calls Tryd.prog 60 #[.string s] w fun e w' => e = .returned (.tuple #[.slice none 0 0, .int .i64 2]) ∧ Below w.heap.size w w' := by
  have n1 : (4096 : Int) < (s.size : Int) := by omega
  go_enter Tryd.func60, Tryd.ntmps60
  go_wp2
  go_ret2
  exact ⟨rfl, Below.refl _ _⟩
/-- what Greedy leaves -/
def GrEnd (w0 : World) (s : List Nat) (e : Ending) (w : World) : Prop :=
  ∃ (a : Option Addr) (l : List Tok) (c : Nat), e = .returned (.tuple #[.slice a l.length c, .int .i64 0]) ∧ w.ownsRow w0.heap.size 173 3 (.slice a l.length c) l.length (l.flatMap tC) ∧ Gr s s.length l ∧ Below w0.heap.size w0 w
set_option maxRecDepth 100000 in
set_option maxHeartbeats 2000000 in
theorem greedy_any (s : ByteArray) (w : World) (hs : s.size ≤ 4096) : Calls Tryd.prog 60 #[.string s] w (GrEnd w (strN s)) := by
  obtain ⟨i0, hi0, hz0, hz1, hz2⟩ := info_parts info_tok
  have n1 : (s.size : Int) ≤ 4096 := by omega
  go_enter Tryd.func60, Tryd.ntmps60
  go_wp2_with fail
  go_loopw [4, 5] (fun ov av wr => ∃ (at_ : Nat) (l : List Tok) (oa : Option Addr) (oc : Nat), av = .int .i64 (at_ : Int) ∧ ov = .slice oa l.length oc ∧ at_ ≤ s.size ∧ Gr (strN s) at_ l ∧ wr.ownsRow w.heap.size 173 3 (.slice oa l.length oc) l.length (l.flatMap tC) ∧ Below w.heap.size w wr) (fun _ av _ => s.size - (intOf av).toNat)
  case atStart => exact ⟨0, [], none, 0, rfl, rfl, by omega, Gr.nil, World.ownsRow_nil _ _ _ _, Below.refl _ _⟩
  case round =>
    obtain ⟨at_, l, oa, oc, rfl, rfl, hat, hgr, hown, hbr⟩ := hrel
    have HGR := Lib.hid hgr
    have HOWN := Lib.hid hown
    have HBR := Lib.hid hbr
    have hll : l.length ≤ 4096 := by have := hgr.le.2; omega
    clear hgr hown hbr
    by_cases hlt : at_ < s.size
    · have m1 : (at_ : Int) < (s.size : Int) := by omega
      have HLG := Lib.hid fun wx => longest_any s at_ wx hlt hs
      go_wp2_with fail
      refine (HLG.out _).mono ?_
      rintro e w1 ⟨L, d, rfl, hbest, hb1⟩
      have HBEST := Lib.hid hbest
      have hd0 := hbest.2.2.2.1
      have hL := hbest.1
      have hLs := hbest.2.1
      rw [strN_length] at hLs
      have HO1 := Lib.hid (own_below HOWN.out hb1)
      have HB1 := Lib.hid (Below.step HBR.out hb1)
      have hw1 : w.heap.size ≤ w1.heap.size := HB1.out.size
      clear hbest hb1
      by_cases h0 : L = 0
      · have hd := hd0 h0
        subst h0
        subst hd
        have HG2 := Lib.hid (Gr.step HGR.out (by rw [strN_length]; exact hlt) HBEST.out)
        have hby := byte_get s at_ hlt
        simp only [if_true] at HG2
        rw [← hby] at HG2
        have HNW := Lib.hid HG2.out
        clear HG2 hby hd0
        have D1 := Lib.hid (cells_new_at (w1.alloc (.cells #[.int .u8 (((s[at_]'hlt).toNat : Nat) : Int), .int .i64 0, .int .i64 0] 173)) (w1.heap.size + 1) (by simp) #[.int .u8 (((s[at_]'hlt).toNat : Nat) : Int), .int .i64 0, .int .i64 0] 173 (tC ((s[at_]'hlt).toNat, ((0 : Nat) : Int), ((0 : Nat) : Int))) rfl)
        have D2 : Hid (∀ u ∈ tC ((s[at_]'hlt).toNat, ((0 : Nat) : Int), ((0 : Nat) : Int)), u.oneCell' = true) := fun u hu => tC_one _ u hu
        have D3 : Hid (l.length + 1 ≤ maxLen) := by show _ ≤ _; unfold maxLen; omega
        have D4 : Hid ((l.length + 1) * 24 ≤ 140737488355328) := by show _ ≤ _; omega
        have D5 : Hid (w.heap.size ≤ ((w1.alloc (.cells #[.int .u8 (((s[at_]'hlt).toNat : Nat) : Int), .int .i64 0, .int .i64 0] 173)).alloc (.cells #[.int .u8 (((s[at_]'hlt).toNat : Nat) : Int), .int .i64 0, .int .i64 0] 173)).heap.size) := by show _ ≤ _; simp; omega
        go_wp2_with (at_builtin; refine wpList_append_own _ rfl _ _ 112 rfl w.heap.size 173 i0 (.agg #[.int .u8 0, .int .i64 0, .int .i64 0]) 3 24 Tryd.underlying112 hi0 hz0 hz1 hz2 rfl (by decide) _ _ _ rfl ((HO1.out.alloc _).alloc _) ⟨w1.heap.size + 1, 0, none⟩ 1 1 (tC ((s[at_]'hlt).toNat, ((0 : Nat) : Int), ((0 : Nat) : Int))) rfl rfl D1.out D2.out D3.out D4.out D5.out ?_)
        intro v' w2 hown' hgrow _
        have BW := Lib.hid (below_own ((HB1.out.alloc hw1 _).alloc (by simp; omega) _) hgrow (by simp; omega) ((HO1.out.alloc _).alloc _) (Nat.le_refl _))
        obtain ⟨oa2, oc2, rfl⟩ := own_form hown'
        have OW : Hid (w2.ownsRow w.heap.size 173 3 (.slice oa2 (l ++ [((s[at_]'hlt).toNat, ((0 : Nat) : Int), ((0 : Nat) : Int))]).length oc2) (l ++ [((s[at_]'hlt).toNat, ((0 : Nat) : Int), ((0 : Nat) : Int))]).length ((l ++ [((s[at_]'hlt).toNat, ((0 : Nat) : Int), ((0 : Nat) : Int))]).flatMap tC)) := by
          show w2.ownsRow _ _ _ _ _ _
          rw [List.length_append, tCs_snoc]
          exact hown'
        have HROW := (hgrow.block w1.heap.size (by simp; omega) (fun e => by have := HO1.out.lt _ e.symm; omega)).trans ((Below.heap_alloc _ _ _ (by simp)).trans (heap_alloc_new w1 (.cells #[.int .u8 (((s[at_]'hlt).toNat : Nat) : Int), .int .i64 0, .int .i64 0] 173)))
        have r0 := cell_of_row w2 w1.heap.size 0 _ _ _ HROW
        have r1 := cell_of_row w2 w1.heap.size 1 _ _ _ HROW
        have r2 := cell_of_row w2 w1.heap.size 2 _ _ _ HROW
        simp only [List.getElem?_toArray, List.getElem?_cons_zero, List.getElem?_cons_succ] at r0 r1 r2
        clear hown' hgrow HROW
        go_wp2_with fail
        go_roundw
        case rel => exact ⟨at_ + 1, l ++ [((s[at_]'hlt).toNat, ((0 : Nat) : Int), ((0 : Nat) : Int))], oa2, oc2, by go_num, by rw [List.length_append]; rfl, by omega, by have h := HNW.out; rwa [show at_ + max 0 1 = at_ + 1 by omega] at h, OW.out, BW.out⟩
        case measure => simp [intOf]; omega
      · have f0 : ((L : Int) == 0) = false := beq_eq_false_iff_ne.2 (by omega)
        have HG2 := Lib.hid (Gr.step HGR.out (by rw [strN_length]; exact hlt) HBEST.out)
        rw [if_neg h0] at HG2
        have HNW := Lib.hid HG2.out
        have hmx : max (L : Int) 1 = (L : Int) := by omega
        clear HG2 hd0
        have D1 := Lib.hid (cells_new_at (w1.alloc (.cells #[.int .u8 0, .int .i64 (L : Int), .int .i64 (d : Int)] 173)) (w1.heap.size + 1) (by simp) #[.int .u8 0, .int .i64 (L : Int), .int .i64 (d : Int)] 173 (tC (0, (L : Int), (d : Int))) rfl)
        have D2 : Hid (∀ u ∈ tC (0, (L : Int), (d : Int)), u.oneCell' = true) := fun u hu => tC_one _ u hu
        have D3 : Hid (l.length + 1 ≤ maxLen) := by show _ ≤ _; unfold maxLen; omega
        have D4 : Hid ((l.length + 1) * 24 ≤ 140737488355328) := by show _ ≤ _; omega
        have D5 : Hid (w.heap.size ≤ ((w1.alloc (.cells #[.int .u8 0, .int .i64 (L : Int), .int .i64 (d : Int)] 173)).alloc (.cells #[.int .u8 0, .int .i64 (L : Int), .int .i64 (d : Int)] 173)).heap.size) := by show _ ≤ _; simp; omega
        go_wp2_with (at_builtin; refine wpList_append_own _ rfl _ _ 112 rfl w.heap.size 173 i0 (.agg #[.int .u8 0, .int .i64 0, .int .i64 0]) 3 24 Tryd.underlying112 hi0 hz0 hz1 hz2 rfl (by decide) _ _ _ rfl ((HO1.out.alloc _).alloc _) ⟨w1.heap.size + 1, 0, none⟩ 1 1 (tC (0, (L : Int), (d : Int))) rfl rfl D1.out D2.out D3.out D4.out D5.out ?_)
        intro v' w2 hown' hgrow _
        have BW := Lib.hid (below_own ((HB1.out.alloc hw1 _).alloc (by simp; omega) _) hgrow (by simp; omega) ((HO1.out.alloc _).alloc _) (Nat.le_refl _))
        obtain ⟨oa2, oc2, rfl⟩ := own_form hown'
        have OW : Hid (w2.ownsRow w.heap.size 173 3 (.slice oa2 (l ++ [(0, (L : Int), (d : Int))]).length oc2) (l ++ [(0, (L : Int), (d : Int))]).length ((l ++ [(0, (L : Int), (d : Int))]).flatMap tC)) := by
          show w2.ownsRow _ _ _ _ _ _
          rw [List.length_append, tCs_snoc]
          exact hown'
        have HROW := (hgrow.block w1.heap.size (by simp; omega) (fun e => by have := HO1.out.lt _ e.symm; omega)).trans ((Below.heap_alloc _ _ _ (by simp)).trans (heap_alloc_new w1 (.cells #[.int .u8 0, .int .i64 (L : Int), .int .i64 (d : Int)] 173)))
        have r0 := cell_of_row w2 w1.heap.size 0 _ _ _ HROW
        have r1 := cell_of_row w2 w1.heap.size 1 _ _ _ HROW
        have r2 := cell_of_row w2 w1.heap.size 2 _ _ _ HROW
        simp only [List.getElem?_toArray, List.getElem?_cons_zero, List.getElem?_cons_succ] at r0 r1 r2
        clear hown' hgrow HROW
        go_wp2_with fail
        go_roundw
        case rel => exact ⟨at_ + L, l ++ [(0, (L : Int), (d : Int))], oa2, oc2, by go_num, by rw [List.length_append]; rfl, by omega, by have h := HNW.out; rwa [show at_ + max L 1 = at_ + L by omega] at h, OW.out, BW.out⟩
        case measure => simp [intOf]; omega
    · have m1 : ¬ (at_ : Int) < (s.size : Int) := by omega
      obtain rfl : at_ = (strN s).length := by rw [strN_length]; omega
      go_wp2_with fail
      go_ret2
      exact ⟨_, _, _, rfl, HOWN.out, HGR.out, HBR.out⟩
end Go.Proofs.YtbfhhnpoogmlnaaDoor
namespace Go.Proofs.YtbfhhnpoogmlnaaDoor
open Go.RowKit Plain
namespace Plain
theorem ex_lt (most : Nat) : ∀ (n : Nat) (l : List Tok) (o : List Nat), l.length = n → (∀ t ∈ l, t.1 < 256) → ex most l = (0, o) → (∀ c ∈ o, c < 256) ∧ o.length ≤ most
  | 0, l, o, hn, _, h => by
    obtain rfl := List.eq_nil_of_length_eq_zero hn
    rw [ex_nil] at h
    obtain rfl : [] = o := congrArg Prod.snd h
    exact ⟨by simp, by simp⟩
  | n + 1, l, o, hn, hl, h => by
    obtain ⟨m, t, rfl⟩ := snoc_of l (by intro h0; subst h0; cases hn)
    rw [ex_snoc] at h
    have ht := hl t (by simp)
    unfold xs at h
    by_cases h0 : (ex most m).1 ≠ 0
    · rw [if_pos h0] at h; rw [h] at h0; exact absurd rfl h0
    · rw [if_neg h0] at h
      have he : ex most m = (0, (ex most m).2) := by
        have : (ex most m).1 = 0 := by simpa using h0
        rw [← this]
      obtain ⟨ih, ih2⟩ := ex_lt most n m _ (by simpa using hn) (fun x hx => hl x (List.mem_append_left _ hx)) he
      generalize (ex most m).2 = o1 at *
      by_cases h1 : (o1.length : Int) < t.2.2
      · rw [if_pos h1] at h; cases h
      · rw [if_neg h1] at h
        by_cases h2 : (most : Int) < o1.length + max t.2.1 1
        · rw [if_pos h2] at h; cases h
        · rw [if_neg h2] at h
          obtain rfl : put1 t o1 = o := congrArg Prod.snd h
          unfold put1
          split
          · refine ⟨fun c hc => ?_, by rw [List.length_append, List.length_singleton]; omega⟩
            rcases List.mem_append.1 hc with hc | hc
            · exact ih c hc
            · simp only [List.mem_singleton] at hc
              subst hc
              exact ht
          · exact ⟨cp_lt _ _ _ ih, by rw [cp_length]; omega⟩
theorem lchk_gr {s : List Nat} {l : List Tok} (h : Gr s s.length l) (hs : s.length ≤ 4096) : lchk l = 0 := lchk_ok.2 ⟨by have := h.le.2; omega, h.formed⟩
theorem xr_bad {most : Int} {l : List Tok} (h : (xr most l).1 ≠ 0) : (xr most l).2 = [] := by
  unfold xr at h ⊢
  split
  · rfl
  · split
    · rfl
    · rename_i h1 h2
      rw [if_neg h1, if_neg h2] at h
      rcases ex_bad most.toNat l with h3 | h3 | h3
      · exact absurd h3 h
      · rw [h3]
      · rw [h3]
theorem gr_aaaa {l : List Tok} (h : Gr [97, 97, 97, 97] 4 l) : l.length = 2 := by
  have h1 := greedy_least (most := 4096) (l := [(97, 0, 0), (0, 3, 1)]) (t := [97, 97, 97, 97]) (by decide) (by decide) h
  have h2 : l.length ≤ 2 := h1
  have h3 : 2 ≤ l.length := by
    generalize hn : 4 = n at h
    cases h with
    | nil => cases hn
    | @step a L d m hg ha hb =>
      cases hg with
      | nil =>
        obtain ⟨b1, b2, b3, b4, _⟩ := hb
        have := b3 (by omega)
        omega
      | @step a' L' d' m' hg' ha' hb' => simp
  omega
end Plain
theorem expand_any (a : Option Addr) (cap : Nat) (l : List Tok) (most : Int) (w : World) (h : SAt 3 tC w a l) (hl : l.length ≤ 9223372036854775807) (hlt : ∀ t ∈ l, t.1 < 256) : Calls Tryd.prog 118 #[.slice a l.length cap, .int .i64 most] w (XEnd w (xr most l)) := by
  by_cases h1 : most < 0 ∨ 4096 < most
  · exact expand_arg a cap l most w h1
  · obtain ⟨m, rfl⟩ := Int.eq_ofNat_of_zero_le (show 0 ≤ most by omega)
    by_cases hk : lchk l = 0
    · have e : xr m l = ex m l := by unfold xr; rw [if_neg h1, if_neg (by simpa using hk)]; rfl
      rw [e]
      exact expand_ok a cap l m w (by omega) h hl hlt hk
    · exact expand_chk a cap l m w (by omega) h hl hk
theorem same_str2 {a b : ByteArray} (h : a = b) : (a.toList == b.toList) = true := by subst h; simp
theorem same_str3 {a b : ByteArray} (h : a = b) : (a.toList != b.toList) = false := by subst h; simp
def lC : Array Value := #[.int .u8 97, .int .i64 0, .int .i64 0, .int .u8 0, .int .i64 3, .int .i64 1]
theorem sat_lit (w : World) : SAt 3 tC (w.alloc (.cells lC 173)) (some ⟨w.heap.size, 0, none⟩) [(97, 0, 0), (0, 3, 1)] := by
  intro i hi
  refine ⟨w.heap.size, 0, rfl, by simp, fun j u hu => ?_⟩
  rw [cell_of_row _ _ _ _ _ _ (heap_alloc_new w (.cells lC 173))]
  have hi2 : i < 2 := hi
  have hj : j < 3 := by
    rcases Nat.lt_or_ge j 3 with h | h
    · exact h
    · rw [List.getElem?_eq_none (by rw [tC_length]; exact h)] at hu; cases hu
  rw [← hu]
  match i, hi2, j, hj with
  | 0, _, 0, _ => rfl
  | 0, _, 1, _ => rfl
  | 0, _, 2, _ => rfl
  | 1, _, 0, _ => rfl
  | 1, _, 1, _ => rfl
  | 1, _, 2, _ => rfl
end Go.Proofs.YtbfhhnpoogmlnaaDoor
namespace Go.Proofs.YtbfhhnpoogmlnaaDoor
open Go.RowKit Plain
end Go.Proofs.YtbfhhnpoogmlnaaDoor
namespace Go.Proofs.YtbfhhnpoogmlnaaDoor
open Go.RowKit Plain
theorem same_str {a b : ByteArray} (h : a = b) : (a.toList == b.toList) = true := by subst h; simp
theorem rd_letters : ∀ (n : Nat) (s : List Nat) (k : Nat), s.length ≤ n → (∀ c ∈ s, c < 256) → ∀ t ∈ (rd k s).2, t.1 < 256
  | 0, s, k, hn, _, t, ht => by rw [rd_nil k s (by omega)] at ht; simp at ht
  | n + 1, s, k, hn, hs, t, ht => by
    by_cases h0 : s.length = 0
    · rw [rd_nil k s h0] at ht; simp at ht
    · by_cases h1 : s.length < tn s
      · rw [rd_short k s h0 h1] at ht; simp at ht
      · by_cases h2 : formed (tk s) = false
        · rw [rd_form k s h0 (by omega) h2] at ht; simp at ht
        · by_cases h3 : k = 4096
          · rw [rd_large k s h0 (by omega) (by simpa using h2) h3] at ht; simp at ht
          · have htn := tn_pos s
            rw [rd_more k s h0 (by omega) (by simpa using h2) h3] at ht
            split at ht
            · rcases List.mem_cons.1 ht with rfl | ht
              · unfold tk
                split
                · exact getD_lt hs 1
                · exact Nat.zero_lt_succ _
              · exact rd_letters n _ _ (by rw [List.length_drop]; omega) (fun c hc => hs c (List.mem_of_mem_drop hc)) t ht
            · simp at ht
theorem strOf_lt_size (l : List Nat) : (strOf l).size = l.length := strOf_size l
end Go.Proofs.YtbfhhnpoogmlnaaDoor
