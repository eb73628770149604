/- The walk of lz.Expand. -/
import Derived.Test.YtaipojclfpgaaaaLzRead
import Derived.Test.YtaipojclfpgaaaaLzPack
namespace Go.Proofs.Ytaipojclfpgaaaa
open Go.RowKit Plain
namespace Plain
/-- what Expand answers -/
def xr (most : Int) (l : List Tok) : Nat × List Nat := if most < 0 ∨ 4096 < most then (1, []) else if lchk l ≠ 0 then (lchk l, []) else ex most.toNat l
theorem xs_form {m : Nat} {r : Nat × List Nat} {t : Tok} {o : List Nat} (h : r = (0, o)) (h1 : (o.length : Int) < t.2.2) : xs m r t = (4, []) := by subst h; unfold xs; rw [if_neg (by simp), if_pos h1]
theorem xs_large {m : Nat} {r : Nat × List Nat} {t : Tok} {o : List Nat} (h : r = (0, o)) (h1 : ¬ (o.length : Int) < t.2.2) (h2 : (m : Int) < o.length + max t.2.1 1) : xs m r t = (2, []) := by subst h; unfold xs; rw [if_neg (by simp), if_neg h1, if_pos h2]
theorem xs_more {m : Nat} {r : Nat × List Nat} {t : Tok} {o : List Nat} (h : r = (0, o)) (h1 : ¬ (o.length : Int) < t.2.2) (h2 : ¬ (m : Int) < o.length + max t.2.1 1) : xs m r t = (0, put1 t o) := by subst h; unfold xs; rw [if_neg (by simp), if_neg h1, if_neg h2]
theorem ex_stop {m : Nat} {l : List Tok} {i : Nat} (hi : i < l.length) (k : Nat) (hk : k ≠ 0) (h : xs m (ex m (l.take i)) l[i] = (k, [])) : ex m l = (k, []) := by
  have e : l = l.take (i + 1) ++ l.drop (i + 1) := (List.take_append_drop _ _).symm
  have h2 : ex m (l.take (i + 1)) = (k, []) := by rw [List.take_succ_eq_append_getElem hi, ex_snoc, h]
  have h3 := ex_err (most := m) (l.take (i + 1)) (l.drop (i + 1)) (by rw [h2]; exact hk)
  rw [← e] at h3
  rw [h3, h2]
theorem ex_next {m : Nat} {l : List Tok} {i : Nat} (hi : i < l.length) {o : List Nat} (h : xs m (ex m (l.take i)) l[i] = (0, o)) : ex m (l.take (i + 1)) = (0, o) := by
  rw [List.take_succ_eq_append_getElem hi, ex_snoc, h]
end Plain
/-- what Expand leaves -/
def XEnd (w0 : World) (R : Nat × List Nat) (e : Ending) (w : World) : Prop := e = .returned (.tuple #[.string (strOf R.2), .int .i64 (R.1 : Nat)]) ∧ Below w0.heap.size w0 w
set_option maxRecDepth 100000 in
theorem expand_arg (a : Option Addr) (cap : Nat) (l : List Tok) (most : Int) (w : World) (h : most < 0 ∨ 4096 < most) : Calls Try.prog 30 #[.slice a l.length cap, .int .i64 most] w (XEnd w (xr most l)) := by
  have e : xr most l = (1, []) := by unfold xr; rw [if_pos h]
  rw [e]
  rcases h with h | h
  · have h1 : most < 0 := h
    go_enter Try.func30, Try.ntmps30
    go_wp2
    go_ret2
    exact ⟨rfl, Below.refl _ _⟩
  · have h1 : ¬ most < 0 := by omega
    have h2 : 4096 < most := h
    go_enter Try.func30, Try.ntmps30
    go_wp2
    go_ret2
    exact ⟨rfl, Below.refl _ _⟩
set_option maxRecDepth 100000 in
theorem expand_chk (a : Option Addr) (cap : Nat) (l : List Tok) (most : Nat) (w : World) (hm : most ≤ 4096) (h : SAt 3 tC w a l) (hl : l.length ≤ 9223372036854775807) (hk : lchk l ≠ 0) : Calls Try.prog 30 #[.slice a l.length cap, .int .i64 (most : Int)] w (XEnd w (xr most l)) := by
  have e : xr most l = (lchk l, []) := by unfold xr; rw [if_neg (by omega), if_pos hk]
  rw [e]
  have HC := Lib.hid fun wx (hx : SAt 3 tC wx a l) => check_any a cap l wx hx hl
  have HS := Lib.hid h
  have h1 : ¬ (most : Int) < 0 := by omega
  have h2 : ¬ 4096 < (most : Int) := by omega
  have f1 : (((lchk l : Nat) : Int) != 0) = true := by simpa using hk
  clear h e hk
  generalize lchk l = c at *
  go_enter Try.func30, Try.ntmps30
  go_wp2_with fail
  refine (HC.out _ HS.out).mono ?_
  rintro e w1 ⟨rfl, hb1⟩
  go_wp2_with fail
  go_ret2
  exact ⟨rfl, hb1⟩
theorem own_some {w : World} {base : Nat} {t : TypeId} {k n c : Nat} {a : Option Addr} {xs : List Value} (h : w.ownsRow base t k (.slice a n c) n xs) (hn : 0 < n) : ∃ g, a = some ⟨g, 0, none⟩ := by
  rcases h.2 with ⟨_, h0⟩ | ⟨g, cap, cur, hv, _⟩
  · omega
  · injection hv with hv
    exact ⟨g, hv⟩
theorem own_ne {w : World} {base : Nat} {t t' : TypeId} {k n g : Nat} {v : Value} {xs : List Value} {cs : Array Value} (h : w.ownsRow base t k v n xs) (hg : w.heap[g]? = some (.cells cs t' (0, 0))) (ht : t ≠ t') : some g ≠ v.ownBlock := by
  rcases h.2 with ⟨rfl, _⟩ | ⟨g', cap, cur, rfl, _, hh, _⟩
  · simp [Value.ownBlock]
  · intro he
    have : g = g' := by simpa [Value.ownBlock] using he
    subst this
    rw [hh] at hg
    injection hg with hg
    injection hg with _ hg
    exact ht hg
set_option maxRecDepth 100000 in
set_option maxHeartbeats 4000000 in
theorem expand_ok (a : Option Addr) (cap : Nat) (l : List Tok) (most : Nat) (w : World) (hm : most ≤ 4096) (h : SAt 3 tC w a l) (hl : l.length ≤ 9223372036854775807) (hlt : ∀ t ∈ l, t.1 < 256) (hk : lchk l = 0) : Calls Try.prog 30 #[.slice a l.length cap, .int .i64 (most : Int)] w (XEnd w (ex most l)) := by
  obtain ⟨i0, hi0, hz0, hz1, hz2⟩ := info_parts info_u8
  have HC := Lib.hid fun wx (hx : SAt 3 tC wx a l) => check_any a cap l wx hx hl
  rw [hk] at HC
  obtain ⟨hk1, hk2⟩ := lchk_ok.1 hk
  have HFO := Lib.hid hk2
  have HLT := Lib.hid hlt
  have HS := Lib.hid h
  have h1 : ¬ (most : Int) < 0 := by omega
  have h2 : ¬ 4096 < (most : Int) := by omega
  clear h hk hk2 hlt
  go_enter Try.func30, Try.ntmps30
  go_wp2_with fail
  refine (HC.out _ HS.out).mono ?_
  rintro e w1 ⟨rfl, hb1⟩
  have HB1 := Lib.hid hb1
  clear hb1
  go_wp2_with fail
  go_loopw [7, 23] (fun ov iv wr => ∃ (i : Nat) (o : List Nat) (oa : Option Addr) (oc : Nat), iv = .int .i64 (i : Int) ∧ i ≤ l.length ∧ ov = .slice oa o.length oc ∧ wr.ownsRow w.heap.size 5 1 (.slice oa o.length oc) o.length (o.map bV) ∧ Below w.heap.size w wr ∧ ex most (l.take i) = (0, o) ∧ o.length ≤ most ∧ ∀ c ∈ o, c < 256) (fun _ iv _ => l.length - (intOf iv).toNat)
  case atStart => exact ⟨0, [], none, 0, rfl, by omega, rfl, World.ownsRow_nil _ _ _ _, HB1.out, ex_nil _, by simp, by simp⟩
  case round =>
    obtain ⟨i, o, oa, oc, rfl, hi, rfl, hown, hbr, hex, hom, ho⟩ := hrel
    have HOWN := Lib.hid hown
    have HBR := Lib.hid hbr
    have HEX := Lib.hid hex
    have HO := Lib.hid ho
    clear HB1 hown hbr hex ho
    by_cases hil : i < l.length
    · have m1 : (i : Int) < (l.length : Int) := by omega
      obtain ⟨g, off, rfl, hg, hr⟩ := (HS.out.below HBR.out) i hil
      have HST := Lib.hid (fun k (hk : k ≠ 0) h => ex_stop (m := most) hil k hk h)
      have HNX := Lib.hid (fun o' h => ex_next (m := most) hil (o := o') h)
      have hf := HFO.out _ (List.getElem_mem hil)
      have hlt8 := HLT.out _ (List.getElem_mem hil)
      generalize l[i] = t at *
      obtain ⟨ta, tb, tc⟩ := t
      have r0 : wr.cell? ⟨g, off + i * 3, none⟩ = some (.int .u8 (ta : Int)) := hr 0 _ rfl
      have r1 : wr.cell? ⟨g, off + i * 3 + 1, none⟩ = some (.int .i64 tb) := hr 1 _ rfl
      have r2 : wr.cell? ⟨g, off + i * 3 + 2, none⟩ = some (.int .i64 tc) := hr 2 _ rfl
      have HBA := Lib.hid (Below.alloc HBR.out HBR.out.size (.cells #[.int .u8 (ta : Int), .int .i64 tb, .int .i64 tc] 60))
      clear hr hg
      by_cases hd : (o.length : Int) < tc
      · have HR : Hid (ex most l = (4, [])) := HST.out 4 (by decide) (xs_form HEX.out hd)
        clear hf
        go_wp2_with fail
        go_ret2
        exact ⟨by rw [HR.out]; rfl, HBA.out⟩
      · have HPL : Hid (¬ (most : Int) < o.length + max tb 1 → ex most (l.take (i + 1)) = (0, put1 (ta, tb, tc) o)) := fun h => HNX.out _ (xs_more HEX.out hd h)
        by_cases hb : (most : Int) < o.length + max tb 1
        · have HR : Hid (ex most l = (2, [])) := HST.out 2 (by decide) (xs_large HEX.out hd hb)
          unfold Plain.formed at hf
          have hmx : max tb 1 ≤ 255 := by
            simp only at hf
            split at hf
            · omega
            · have := of_decide_eq_true hf; omega
          have hmx2 : 1 ≤ max tb 1 := by omega
          clear hf
          go_wp2_with fail
          go_ret2
          exact ⟨by rw [HR.out]; rfl, HBA.out⟩
        · have HNEW := Lib.hid (HPL.out hb)
          unfold Plain.formed at hf
          simp only at hf
          by_cases h0 : tb = 0
          · rw [if_pos h0] at hf
            have hc0 := of_decide_eq_true hf
            subst h0
            subst hc0
            clear hf
            have hlt9 : o.length + 1 ≤ most := by omega
            have hw0 : w.heap.size ≤ wr.heap.size := HBR.out.size
            have D1 := Lib.hid (cells_new_at (wr.alloc (.cells #[.int .u8 (ta : Int), .int .i64 0, .int .i64 0] 60)) (wr.heap.size + 1) (by simp) #[.int .u8 (ta : Int)] 5 [.int .u8 (ta : Int)] rfl)
            have D2 : Hid (∀ u ∈ ([.int .u8 (ta : Int)] : List Value), u.oneCell' = true) := by intro u hu; simp only [List.mem_cons, List.not_mem_nil, or_false] at hu; rcases hu with rfl; rfl
            have D3 : Hid (o.length + 1 ≤ maxLen) := by show _ ≤ _; unfold maxLen; omega
            have D4 : Hid ((o.length + 1) * 1 ≤ 140737488355328) := by show _ ≤ _; omega
            have D5 : Hid (w.heap.size ≤ ((wr.alloc (.cells #[.int .u8 (ta : Int), .int .i64 0, .int .i64 0] 60)).alloc (.cells #[.int .u8 (ta : Int)] 5)).heap.size) := by show _ ≤ _; simp; omega
            go_wp2_with (at_builtin; refine wpList_append_own _ rfl _ _ 87 rfl w.heap.size 5 i0 (.int .u8 0) 1 1 Try.underlying87 hi0 hz0 hz1 hz2 rfl (by decide) _ _ _ rfl ((HOWN.out.alloc _).alloc _) ⟨wr.heap.size + 1, 0, none⟩ 1 1 [.int .u8 (ta : Int)] rfl rfl D1.out D2.out D3.out D4.out D5.out ?_)
            intro v' w2 hown' hgrow _
            have BW := Lib.hid (below_own (HBA.out.alloc HBA.out.size _) hgrow (by simp; omega) ((HOWN.out.alloc _).alloc _) (Nat.le_refl _))
            obtain ⟨oa3, oc3, rfl⟩ := own_form hown'
            have OW : Hid (w2.ownsRow w.heap.size 5 1 (.slice oa3 (o ++ [ta]).length oc3) (o ++ [ta]).length ((o ++ [ta]).map bV)) := by
              show w2.ownsRow _ _ _ _ _ _
              rw [List.length_append, List.map_append]
              exact hown'
            have HROW := (hgrow.block wr.heap.size (by simp; omega) (fun e => by have := HOWN.out.lt _ e.symm; omega)).trans ((Below.heap_alloc _ _ _ (by simp)).trans (heap_alloc_new wr (.cells #[.int .u8 (ta : Int), .int .i64 0, .int .i64 0] 60)))
            have q0 := cell_of_row w2 wr.heap.size 0 _ _ _ HROW
            have q1 := cell_of_row w2 wr.heap.size 1 _ _ _ HROW
            have q2 := cell_of_row w2 wr.heap.size 2 _ _ _ HROW
            simp only [List.getElem?_toArray, List.getElem?_cons_zero, List.getElem?_cons_succ] at q0 q1 q2
            clear hown' hgrow HROW
            go_wp2_with fail
            have HP1 : Hid (put1 (ta, 0, 0) o = o ++ [ta]) := rfl
            have HO1 : Hid (∀ c ∈ o ++ [ta], c < 256) := fun c hc => by
              rcases List.mem_append.1 hc with hc | hc
              · exact HO.out c hc
              · simp only [List.mem_singleton] at hc
                subst hc
                exact hlt8
            have hlen : (o ++ [ta]).length = o.length + 1 := by simp
            have HLEN := Lib.hid hlen
            clear hlen
            go_loopw [7, 50] (fun ov jv wq => jv = .int .i64 0 ∧ ov = .slice oa3 (o ++ [ta]).length oc3 ∧ wq = w2) (fun _ _ _ => 0)
            case atStart => exact ⟨rfl, by rw [HLEN.out], rfl⟩
            case round =>
              obtain ⟨rfl, rfl, rfl⟩ := hrel
              go_wp2_with fail
              go_roundw
              case rel => exact ⟨i + 1, o ++ [ta], oa3, oc3, by go_num, by omega, rfl, OW.out, BW.out, by rw [← HP1.out]; exact HNEW.out, by rw [HLEN.out]; exact hlt9, HO1.out⟩
              case measure => simp [intOf]; omega
          · rw [if_neg h0] at hf
            obtain ⟨c0, c1, c2, c3, c4⟩ := of_decide_eq_true hf
            obtain ⟨nb, rfl⟩ := Int.eq_ofNat_of_zero_le (show 0 ≤ tb by omega)
            obtain ⟨nd, rfl⟩ := Int.eq_ofNat_of_zero_le (show 0 ≤ tc by omega)
            subst c0
            have f0 : ((nb : Int) == 0) = false := beq_eq_false_iff_ne.2 h0
            have hmx : max (nb : Int) 1 = (nb : Int) := by omega
            rw [hmx] at hb
            clear hf h0
            go_wp2_with fail
            have HROW := Lib.hid (heap_alloc_new wr (.cells #[.int .u8 0, .int .i64 (nb : Int), .int .i64 (nd : Int)] 60))
            have HO2 := Lib.hid (HOWN.out.alloc (.cells #[.int .u8 0, .int .i64 (nb : Int), .int .i64 (nd : Int)] 60))
            have hbt : wr.heap.size < (wr.alloc (.cells #[.int .u8 0, .int .i64 (nb : Int), .int .i64 (nd : Int)] 60)).heap.size := by simp
            generalize wr.alloc (.cells #[.int .u8 0, .int .i64 (nb : Int), .int .i64 (nd : Int)] 60) = wa at *
            generalize wr.heap.size = bt at *
            have HNB : Hid (o.length + nb ≤ most) := by show _ ≤ _; omega
            go_loopw [7, 50] (fun ov jv wq => ∃ (j : Nat) (p : List Nat) (oa2 : Option Addr) (oc2 : Nat), jv = .int .i64 (j : Int) ∧ j ≤ nb ∧ p = cp j nd o ∧ ov = .slice oa2 p.length oc2 ∧ wq.ownsRow w.heap.size 5 1 (.slice oa2 p.length oc2) p.length (p.map bV) ∧ Below w.heap.size w wq ∧ wq.heap[bt]? = some (.cells #[.int .u8 0, .int .i64 (nb : Int), .int .i64 (nd : Int)] 60 (0, 0))) (fun _ jv _ => nb - (intOf jv).toNat)
            case atStart => exact ⟨0, o, oa, oc, rfl, by omega, rfl, rfl, HO2.out, HBA.out, HROW.out⟩
            case round =>
              obtain ⟨j, p, oa2, oc2, rfl, hj, hp, rfl, hoq, hbq, hrq⟩ := hrel
              have HP := Lib.hid hp
              have HOQ := Lib.hid hoq
              have HBQ := Lib.hid hbq
              have HRQ := Lib.hid hrq
              have q0 := cell_of_row wr bt 0 _ _ _ hrq
              have q1 := cell_of_row wr bt 1 _ _ _ hrq
              have q2 := cell_of_row wr bt 2 _ _ _ hrq
              simp only [List.getElem?_toArray, List.getElem?_cons_zero, List.getElem?_cons_succ] at q0 q1 q2
              have hpl : p.length = o.length + j := by rw [hp, cp_length]
              have hp1 : nd ≤ p.length := by omega
              have hp2 : p.length ≤ 4096 := by have := HNB.out; omega
              have hp3 : 0 < p.length := by omega
              have hw0 : w.heap.size ≤ wr.heap.size := HBQ.out.size
              clear hp hoq hbq hrq
              by_cases hjn : j < nb
              · have m2 : (j : Int) < (nb : Int) := by omega
                obtain ⟨g2, rfl⟩ := own_some HOQ.out hp3
                have hb' : wr.cell? ⟨g2, p.length - nd, none⟩ = some (.int .u8 ((p.getD (p.length - nd) 0 : Nat) : Int)) := by
                  rw [HOQ.out.cellAt (p.length - nd) (by omega), List.getElem?_map, List.getElem?_eq_getElem (by omega), List.getD_eq_getElem?_getD, List.getElem?_eq_getElem (by omega)]
                  rfl
                have HSN : Hid (cp (j + 1) nd o = p ++ [p.getD (p.length - nd) 0]) := by show _ = _; rw [cp_snoc, ← HP.out]
                generalize p.getD (p.length - nd) 0 = b at *
                clear hpl
                have D1 := Lib.hid (cells_new_at wr (wr.heap.size) (rfl) #[.int .u8 (b : Int)] 5 [.int .u8 (b : Int)] rfl)
                have D2 : Hid (∀ u ∈ ([.int .u8 (b : Int)] : List Value), u.oneCell' = true) := by intro u hu; simp only [List.mem_cons, List.not_mem_nil, or_false] at hu; rcases hu with rfl; rfl
                have D3 : Hid (p.length + 1 ≤ maxLen) := by show _ ≤ _; unfold maxLen; omega
                have D4 : Hid ((p.length + 1) * 1 ≤ 140737488355328) := by show _ ≤ _; omega
                have D5 : Hid (w.heap.size ≤ (wr.alloc (.cells #[.int .u8 (b : Int)] 5)).heap.size) := by show _ ≤ _; simp; omega
                go_wp2_with (at_builtin; refine wpList_append_own _ rfl _ _ 87 rfl w.heap.size 5 i0 (.int .u8 0) 1 1 Try.underlying87 hi0 hz0 hz1 hz2 rfl (by decide) _ _ _ rfl (HOQ.out.alloc _) ⟨wr.heap.size, 0, none⟩ 1 1 [.int .u8 (b : Int)] rfl rfl D1.out D2.out D3.out D4.out D5.out ?_)
                intro v' w2 hown' hgrow _
                have BW := Lib.hid (below_own (HBQ.out.alloc HBQ.out.size _) hgrow (by simp; omega) (HOQ.out.alloc _) (Nat.le_refl _))
                obtain ⟨oa3, oc3, rfl⟩ := own_form hown'
                have OW : Hid (w2.ownsRow w.heap.size 5 1 (.slice oa3 (p ++ [b]).length oc3) (p ++ [b]).length ((p ++ [b]).map bV)) := by
                  show w2.ownsRow _ _ _ _ _ _
                  rw [List.length_append, List.map_append]
                  exact hown'
                have HR2 := Lib.hid ((hgrow.block bt (by have := lt_of_block HRQ.out; simp; omega) (own_ne (HOQ.out.alloc (.cells #[.int .u8 (b : Int)] 5)) ((Below.heap_alloc wr (.cells #[.int .u8 (b : Int)] 5) bt (lt_of_block HRQ.out)).trans HRQ.out) (by decide))).trans ((Below.heap_alloc wr (.cells #[.int .u8 (b : Int)] 5) bt (lt_of_block HRQ.out)).trans HRQ.out))
                clear hown' hgrow
                go_wp2_with fail
                go_roundw
                case rel => exact ⟨j + 1, p ++ [b], oa3, oc3, by go_num, by omega, HSN.out.symm, by rw [List.length_append]; rfl, OW.out, BW.out, HR2.out⟩
                case measure => simp [intOf]; omega
              · obtain rfl : j = nb := by omega
                have m2 : ¬ (j : Int) < (j : Int) := by omega
                have HP1 : Hid (put1 (0, (j : Int), (nd : Int)) o = p) := by
                  show _ = _
                  unfold put1
                  rw [if_neg (by simp; omega)]
                  simp only [Int.toNat_natCast]
                  exact HP.out.symm
                have HO1 : Hid (∀ c ∈ p, c < 256) := by rw [HP.out]; exact cp_lt _ _ _ HO.out
                go_wp2_with fail
                go_roundw
                case rel => exact ⟨i + 1, p, oa2, oc2, by go_num, by omega, rfl, HOQ.out, HBQ.out, by rw [← HP1.out]; exact HNEW.out, by rw [hpl]; exact HNB.out, HO1.out⟩
                case measure => simp [intOf]; omega
    · have m1 : ¬ (i : Int) < (l.length : Int) := by omega
      have hA : l.take i = l := List.take_of_length_le (by omega)
      have hcv := run_string_own (P := Try.prog) wr 87 5 9 Try.underlying87 Try.underlying5 Try.underlying9 HO.out HOWN.out
      rw [hA] at HEX
      clear hA
      go_wp2_with fail
      go_ret2
      exact ⟨by rw [HEX.out]; rfl, HBR.out⟩
end Go.Proofs.Ytaipojclfpgaaaa
