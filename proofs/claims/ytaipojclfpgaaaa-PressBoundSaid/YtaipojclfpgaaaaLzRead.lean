/- The walk of lz.Read (printed by gen_lzread.py). -/
import Derived.Test.YtaipojclfpgaaaaLzW
import Derived.Test.YtaipojclfpgaaaaBytesOwn
import Derived.RegionTactic
namespace Go.Proofs.Ytaipojclfpgaaaa
open Go.RowKit Plain
theorem info_tok : (Try.prog.info? 60).map (fun i => (i.zero, i.size, i.bytes)) = some (some (.agg #[.int .u8 0, .int .i64 0, .int .i64 0]), 3, 24) := by kernel_rfl
def szOf : Value → Nat
  | .string b => b.size
  | _ => 0
theorem tCs_snoc (l : List Tok) (t : Tok) : (l ++ [t]).flatMap tC = l.flatMap tC ++ tC t := by simp
theorem empty_str {s : ByteArray} (h : s.size = 0) : s.toList.isEmpty = true := by
  rw [Lib.toList_data]
  have hl : s.data.toList.length = s.size := by rw [Array.length_toList]; rfl
  rw [List.isEmpty_iff]
  exact List.eq_nil_of_length_eq_zero (by omega)
theorem full_str {s : ByteArray} (h : s.size ≠ 0) : s.toList.isEmpty = false := by
  rw [Lib.toList_data]
  have hl : s.data.toList.length = s.size := by rw [Array.length_toList]; rfl
  cases hd : s.data.toList with
  | nil => rw [hd] at hl; simp at hl; omega
  | cons a l => rfl
/-- what Read leaves -/
def RdEnd (w0 : World) (R : Nat × List Tok) (e : Ending) (w : World) : Prop :=
  ∃ v, e = .returned (.tuple #[v, .int .i64 (R.1 : Nat)]) ∧ w.ownsRow w0.heap.size 60 3 v R.2.length (R.2.flatMap tC) ∧ Below w0.heap.size w0 w
theorem read_bad {w0 w : World} {k : Nat} {acc : List Tok} {R r : Nat × List Tok} (hk : k ≠ 0) (h : cont acc r = R) (hr : r = (k, [])) (hb : Below w0.heap.size w0 w) (c : Int) (hc : c = (k : Int)) : RdEnd w0 R (.returned (.tuple #[.slice none 0 0, .int .i64 c])) w := by
  subst hr hc
  have e : cont acc (k, []) = (k, []) := by simp [cont, hk]
  rw [e] at h
  subst h
  exact ⟨_, rfl, World.ownsRow_nil _ _ _ _, hb⟩
theorem read_end {w0 w : World} {acc : List Tok} {R r : Nat × List Tok} {v : Value} (h : cont acc r = R) (hr : r = (0, [])) (hb : Below w0.heap.size w0 w) (hown : w.ownsRow w0.heap.size 60 3 v acc.length (acc.flatMap tC)) : RdEnd w0 R (.returned (.tuple #[v, .int .i64 0])) w := by
  subst hr
  have e : cont acc (0, []) = (0, acc) := by simp [cont]
  rw [e] at h
  subst h
  exact ⟨_, rfl, hown, hb⟩
theorem own_form {w : World} {base : Nat} {t : TypeId} {n k : Nat} {v : Value} {xs : List Value} (h : w.ownsRow base t k v n xs) : ∃ a c, v = .slice a n c := by
  rcases h.2 with ⟨rfl, rfl⟩ | ⟨g, cap, cur, rfl, _⟩
  · exact ⟨none, 0, rfl⟩
  · exact ⟨_, cap, rfl⟩
theorem own_below {w w1 : World} {base : Nat} {t : TypeId} {k n : Nat} {v : Value} {xs : List Value} (h : w.ownsRow base t k v n xs) (hb : Below w.heap.size w w1) : w1.ownsRow base t k v n xs := by
  refine ⟨h.1, ?_⟩
  rcases h.2 with h0 | ⟨g, cap, cur, hv, hbg, hg, hr⟩
  · exact .inl h0
  · exact .inr ⟨g, cap, cur, hv, hbg, (hb.block g (lt_of_block hg)).trans hg, hr⟩
theorem tC_one (t : Tok) : ∀ u ∈ tC t, u.oneCell' = true := by
  intro u hu
  simp only [tC, List.mem_cons, List.not_mem_nil, or_false] at hu
  rcases hu with rfl | rfl | rfl <;> rfl
theorem byte0 {s : ByteArray} (h : 0 < s.size) : (strN s).getD 0 0 = (s[0]'h).toNat := (byte_get s 0 h).symm
theorem or_bytes (a b : Nat) (ha : a < 256) (hb : b < 256) : bits .or .i64 (a : Int) ((b : Int) * (256 : Int)) = ((a + 256 * b : Nat) : Int) := by
  have e : (b : Int) * (256 : Int) = (((b <<< 8) : Nat) : Int) := by rw [Nat.shiftLeft_eq]; simp
  rw [e, i64_or_nat a _ (by omega) (by rw [Nat.shiftLeft_eq]; omega)]
  congr 1
  rw [Nat.or_comm, ← Nat.shiftLeft_add_eq_or_of_lt (by omega), Nat.shiftLeft_eq]
  omega
set_option maxRecDepth 100000 in
set_option maxHeartbeats 4000000 in
theorem read_any (s : ByteArray) (w : World) (hs : s.size ≤ 9223372036854775807) :
    Calls Try.prog 32 #[.string s] w (RdEnd w (rd 0 (strN s))) := by
  obtain ⟨i0, hi0, hz0, hz1, hz2⟩ := info_parts info_tok
  have HR0 := Lib.hid (cont_nil 0 (strN s))
  obtain ⟨R, hR⟩ : ∃ R, R = rd 0 (strN s) := ⟨_, rfl⟩
  have HRR := Lib.hid hR
  rw [← hR]
  clear hR
  have HS := Lib.hid hs
  clear hs
  go_enter Try.func32, Try.ntmps32
  go_wp2_with fail
  go_loopw [0, 4] (fun sv ov wr => ∃ (s' : ByteArray) (acc : List Tok) (oa : Option Addr) (oc : Nat), sv = .string s' ∧ ov = .slice oa acc.length oc ∧ s'.size ≤ 9223372036854775807 ∧ acc.length ≤ 4096 ∧ wr.ownsRow w.heap.size 60 3 (.slice oa acc.length oc) acc.length (acc.flatMap tC) ∧ Below w.heap.size w wr ∧ cont acc (rd acc.length (strN s')) = R) (fun sv _ _ => szOf sv)
  case atStart => exact ⟨s, [], none, 0, rfl, rfl, HS.out, by simp, World.ownsRow_nil _ _ _ _, Below.refl _ _, by rw [HRR.out]; exact HR0.out⟩
  case round =>
    obtain ⟨s', acc, oa, oc, rfl, rfl, hsz, hacc, hown, hbr, hcont⟩ := hrel
    have HOWN := Lib.hid hown
    have HBR := Lib.hid hbr
    have HC := Lib.hid hcont
    clear hown hbr hcont
    have hw0 : w.heap.size ≤ wr.heap.size := HBR.out.size
    have HLN := Lib.hid (strN_length s')
    by_cases he : s'.size = 0
    · have e1 := empty_str he
      have HRD := Lib.hid (rd_nil acc.length (strN s') (by rw [HLN.out]; exact he))
      clear he
      go_wp2_with fail
      go_ret2
      exact read_end HC.out HRD.out HBR.out HOWN.out
    · have e1 := full_str he
      have hne : (strN s').length ≠ 0 := by rw [HLN.out]; exact he
      have HNE := Lib.hid hne
      have h0 : 0 < s'.size := by omega
      clear he hne
      by_cases hz : (s'[0]'h0).toNat = 0
      · have b0 : (((s'[0]'h0).toNat : Int) == 0) = true := by rw [hz]; rfl
        have HTN : Hid (tn (strN s') = 2) := by show _ = _; unfold tn; rw [byte0 h0, if_pos hz]
        by_cases hsh : s'.size < 2
        · have n1 : (s'.size : Int) < 2 := by omega
          have HRD := Lib.hid (rd_short acc.length (strN s') HNE.out (by rw [HTN.out, HLN.out]; exact hsh))
          clear hz hsh
          go_wp2_with fail
          go_ret2
          exact read_bad (by decide) HC.out HRD.out HBR.out _ rfl
        · have n1 : ¬ (s'.size : Int) < 2 := by omega
          have hge : Hid (tn (strN s') ≤ (strN s').length) := by show _ ≤ _; rw [HTN.out, HLN.out]; omega
          have h1 : 1 < s'.size := by omega
          have HTK : Hid (tk (strN s') = ((s'[1]'h1).toNat, 0, 0)) := by show _ = _; unfold tk; rw [byte0 h0, (byte_get s' 1 h1).symm, if_pos hz]
          have hfm : formed (tk (strN s')) = true := by rw [HTK.out]; rfl
          have HFM := Lib.hid hfm
          have HF := Lib.hid fun wx => formed_any (s'[1]'h1).toNat 0 0 wx
          rw [HTK.out] at hfm
          rw [hfm] at HF
          clear hz hsh hfm
          by_cases hk : acc.length = 4096
          · have f2 : ((acc.length : Int) == 4096) = true := beq_iff_eq.2 (by omega)
            have HRD := Lib.hid (rd_large acc.length (strN s') HNE.out hge.out HFM.out hk)
            clear hk
            go_wp2_with fail
            refine (HF.out _).mono ?_
            rintro e w1 ⟨rfl, hb1⟩
            have HB1 := Lib.hid (Below.step (Below.alloc HBR.out HBR.out.size (.cells #[.int .u8 (((s'[1]'h1).toNat : Nat) : Int), .int .i64 0, .int .i64 0] 60)) hb1)
            clear hb1
            go_wp2_with fail
            go_ret2
            exact read_bad (by decide) HC.out HRD.out HB1.out _ rfl
          · have f2 : ((acc.length : Int) == 4096) = false := beq_eq_false_iff_ne.2 (by omega)
            have HNEW := Lib.hid (cont_more acc acc.length (strN s') HNE.out hge.out HFM.out hk)
            rw [HTK.out, HTN.out, ← extract_strN s' 2] at HNEW
            have hk2 : acc.length + 1 ≤ 4096 := by omega
            have HK2 := Lib.hid hk2
            clear hk hk2
            go_wp2_with fail
            refine (HF.out _).mono ?_
            rintro e w1 ⟨rfl, hb1⟩
            have HB1 := Lib.hid (Below.step (Below.alloc HBR.out HBR.out.size (.cells #[.int .u8 (((s'[1]'h1).toNat : Nat) : Int), .int .i64 0, .int .i64 0] 60)) hb1)
            have HROW := (hb1.block wr.heap.size (by simp)).trans (show (wr.alloc (.cells #[.int .u8 (((s'[1]'h1).toNat : Nat) : Int), .int .i64 0, .int .i64 0] 60)).heap[wr.heap.size]? = _ from heap_alloc_new wr _)
            have r0 := cell_of_row w1 wr.heap.size 0 _ _ _ HROW
            have r1 := cell_of_row w1 wr.heap.size 1 _ _ _ HROW
            have r2 := cell_of_row w1 wr.heap.size 2 _ _ _ HROW
            simp only [List.getElem?_toArray, List.getElem?_cons_zero, List.getElem?_cons_succ] at r0 r1 r2
            have HO1 := Lib.hid (own_below (own_below HOWN.out (show Below wr.heap.size wr (wr.alloc (.cells #[.int .u8 (((s'[1]'h1).toNat : Nat) : Int), .int .i64 0, .int .i64 0] 60)) from (Below.alloc (Below.refl _ _) (Nat.le_refl _) _))) hb1)
            have D1 := Lib.hid (cells_new w1 #[.int .u8 (((s'[1]'h1).toNat : Nat) : Int), .int .i64 0, .int .i64 0] 60)
            have D2 : Hid (∀ u ∈ tC ((s'[1]'h1).toNat, (0 : Int), (0 : Int)), u.oneCell' = true) := fun u hu => tC_one _ u hu
            have D3 : Hid (acc.length + 1 ≤ maxLen) := by show _ ≤ _; have := HK2.out; unfold maxLen; omega
            have D4 : Hid ((acc.length + 1) * 24 ≤ 140737488355328) := by show _ ≤ _; have := HK2.out; omega
            have hw1 : w.heap.size ≤ w1.heap.size := HB1.out.size
            have D5 : Hid (w.heap.size ≤ (w1.alloc (.cells #[.int .u8 (((s'[1]'h1).toNat : Nat) : Int), .int .i64 0, .int .i64 0] 60)).heap.size) := by show _ ≤ _; simp; omega
            clear hb1 HROW
            go_wp2_with (at_builtin; refine wpList_append_own _ rfl _ _ 55 rfl w.heap.size 60 i0 (.agg #[.int .u8 0, .int .i64 0, .int .i64 0]) 3 24 Try.underlying55 hi0 hz0 hz1 hz2 rfl (by decide) _ _ _ rfl (HO1.out.alloc _) ⟨w1.heap.size, 0, none⟩ 1 1 (tC ((s'[1]'h1).toNat, (0 : Int), (0 : Int))) rfl rfl D1.out D2.out D3.out D4.out D5.out ?_)
            intro v' w2 hown' hgrow _
            have BW := Lib.hid (below_own (HB1.out.alloc hw1 _) hgrow (by simp; omega) (HO1.out.alloc _) (Nat.le_refl _))
            obtain ⟨oa2, oc2, rfl⟩ := own_form hown'
            have OW : Hid (w2.ownsRow w.heap.size 60 3 (.slice oa2 (acc ++ [((s'[1]'h1).toNat, (0 : Int), (0 : Int))]).length oc2) (acc ++ [((s'[1]'h1).toNat, (0 : Int), (0 : Int))]).length ((acc ++ [((s'[1]'h1).toNat, (0 : Int), (0 : Int))]).flatMap tC)) := by
              show w2.ownsRow _ _ _ _ _ _
              rw [List.length_append, tCs_snoc]
              exact hown'
            clear hown' hgrow r0 r1 r2
            have hx : (s'.extract 2 s'.size).size = s'.size - 2 := by rw [← strN_length, extract_strN, List.length_drop, strN_length]
            have HX := Lib.hid hx
            clear hx
            go_wp2_with fail
            go_roundw
            case rel => exact ⟨s'.extract 2 s'.size, acc ++ [((s'[1]'h1).toNat, (0 : Int), (0 : Int))], oa2, oc2, rfl, by rw [List.length_append]; rfl, by rw [HX.out]; omega, by rw [List.length_append]; exact HK2.out, OW.out, BW.out, by rw [List.length_append]; exact HNEW.out.symm.trans HC.out⟩
            case measure => simp only [szOf]; rw [HX.out]; omega
      · have b0 : (((s'[0]'h0).toNat : Int) == 0) = false := by rw [beq_eq_false_iff_ne]; omega
        have HTN : Hid (tn (strN s') = 3) := by show _ = _; unfold tn; rw [byte0 h0, if_neg hz]
        by_cases hsh : s'.size < 3
        · have n1 : (s'.size : Int) < 3 := by omega
          have HRD := Lib.hid (rd_short acc.length (strN s') HNE.out (by rw [HTN.out, HLN.out]; exact hsh))
          clear hz hsh
          go_wp2_with fail
          go_ret2
          exact read_bad (by decide) HC.out HRD.out HBR.out _ rfl
        · have n1 : ¬ (s'.size : Int) < 3 := by omega
          have hge : Hid (tn (strN s') ≤ (strN s').length) := by show _ ≤ _; rw [HTN.out, HLN.out]; omega
          have h1 : 1 < s'.size := by omega
          have h2 : 2 < s'.size := by omega
          have HOR := Lib.hid (or_bytes (s'[1]'h1).toNat (s'[2]'h2).toNat (UInt8.toNat_lt _) (UInt8.toNat_lt _))
          have HTK : Hid (tk (strN s') = (0, ((s'[0]'h0).toNat : Int), (((s'[1]'h1).toNat + 256 * (s'[2]'h2).toNat : Nat) : Int))) := by show _ = _; unfold tk; rw [byte0 h0, (byte_get s' 1 h1).symm, (byte_get s' 2 h2).symm, if_neg hz]
          have n2 : (2 : Int) < (s'.size : Int) := by omega
          have n3 : (1 : Int) < (s'.size : Int) := by omega
          have n4 : (0 : Int) < (s'.size : Int) := by omega
          have l0 := UInt8.toNat_lt (s'[0]'h0)
          have l1 := UInt8.toNat_lt (s'[1]'h1)
          have l2 := UInt8.toNat_lt (s'[2]'h2)
          obtain ⟨D, hD⟩ : ∃ D, D = (s'[1]'h1).toNat + 256 * (s'[2]'h2).toNat := ⟨_, rfl⟩
          have hor := HOR.out
          rw [← hD] at HTK hor
          clear hD HOR
          have HF := Lib.hid fun wx => formed_any 0 ((s'[0]'h0).toNat : Int) (D : Int) wx
          clear hz hsh
          by_cases hfm : formed (tk (strN s')) = true
          rotate_left
          · have hfm2 : formed (tk (strN s')) = false := by simpa using hfm
            have HRD := Lib.hid (rd_form acc.length (strN s') HNE.out hge.out hfm2)
            rw [HTK.out] at hfm2
            rw [hfm2] at HF
            clear hfm hfm2
            go_wp2_with fail
            go_region
            go_wp2_with fail
            refine (HF.out _).mono ?_
            rintro e w1 ⟨rfl, hb1⟩
            have HB1 := Lib.hid (Below.step (Below.alloc HBR.out HBR.out.size (.cells #[.int .u8 0, .int .i64 (((s'[0]'h0).toNat : Nat) : Int), .int .i64 (D : Int)] 60)).drew hb1)
            clear hb1
            go_wp2_with fail
            go_ret2
            exact read_bad (by decide) HC.out HRD.out HB1.out _ rfl
          have HFM := Lib.hid hfm
          rw [HTK.out] at hfm
          rw [hfm] at HF
          clear hfm
          by_cases hk : acc.length = 4096
          · have f2 : ((acc.length : Int) == 4096) = true := beq_iff_eq.2 (by omega)
            have HRD := Lib.hid (rd_large acc.length (strN s') HNE.out hge.out HFM.out hk)
            clear hk
            go_wp2_with fail
            go_region
            go_wp2_with fail
            refine (HF.out _).mono ?_
            rintro e w1 ⟨rfl, hb1⟩
            have HB1 := Lib.hid (Below.step (Below.alloc HBR.out HBR.out.size (.cells #[.int .u8 0, .int .i64 (((s'[0]'h0).toNat : Nat) : Int), .int .i64 (D : Int)] 60)).drew hb1)
            clear hb1
            go_wp2_with fail
            go_ret2
            exact read_bad (by decide) HC.out HRD.out HB1.out _ rfl
          · have f2 : ((acc.length : Int) == 4096) = false := beq_eq_false_iff_ne.2 (by omega)
            have HNEW := Lib.hid (cont_more acc acc.length (strN s') HNE.out hge.out HFM.out hk)
            rw [HTK.out, HTN.out, ← extract_strN s' 3] at HNEW
            have hk2 : acc.length + 1 ≤ 4096 := by omega
            have HK2 := Lib.hid hk2
            clear hk hk2
            go_wp2_with fail
            go_region
            go_wp2_with fail
            refine (HF.out _).mono ?_
            rintro e w1 ⟨rfl, hb1⟩
            have HB1 := Lib.hid (Below.step (Below.alloc HBR.out HBR.out.size (.cells #[.int .u8 0, .int .i64 (((s'[0]'h0).toNat : Nat) : Int), .int .i64 (D : Int)] 60)).drew hb1)
            have HROW := (hb1.block wr.heap.size (by simp)).trans (show (wr.alloc (.cells #[.int .u8 0, .int .i64 (((s'[0]'h0).toNat : Nat) : Int), .int .i64 (D : Int)] 60)).drew.heap[wr.heap.size]? = _ from heap_alloc_new wr _)
            have r0 := cell_of_row w1 wr.heap.size 0 _ _ _ HROW
            have r1 := cell_of_row w1 wr.heap.size 1 _ _ _ HROW
            have r2 := cell_of_row w1 wr.heap.size 2 _ _ _ HROW
            simp only [List.getElem?_toArray, List.getElem?_cons_zero, List.getElem?_cons_succ] at r0 r1 r2
            have HO1 := Lib.hid (own_below (own_below HOWN.out (show Below wr.heap.size wr (wr.alloc (.cells #[.int .u8 0, .int .i64 (((s'[0]'h0).toNat : Nat) : Int), .int .i64 (D : Int)] 60)).drew from (Below.alloc (Below.refl _ _) (Nat.le_refl _) _).drew)) hb1)
            have D1 := Lib.hid (cells_new w1 #[.int .u8 0, .int .i64 (((s'[0]'h0).toNat : Nat) : Int), .int .i64 (D : Int)] 60)
            have D2 : Hid (∀ u ∈ tC (0, ((s'[0]'h0).toNat : Int), (D : Int)), u.oneCell' = true) := fun u hu => tC_one _ u hu
            have D3 : Hid (acc.length + 1 ≤ maxLen) := by show _ ≤ _; have := HK2.out; unfold maxLen; omega
            have D4 : Hid ((acc.length + 1) * 24 ≤ 140737488355328) := by show _ ≤ _; have := HK2.out; omega
            have hw1 : w.heap.size ≤ w1.heap.size := HB1.out.size
            have D5 : Hid (w.heap.size ≤ (w1.alloc (.cells #[.int .u8 0, .int .i64 (((s'[0]'h0).toNat : Nat) : Int), .int .i64 (D : Int)] 60)).heap.size) := by show _ ≤ _; simp; omega
            clear hb1 HROW
            go_wp2_with (at_builtin; refine wpList_append_own _ rfl _ _ 55 rfl w.heap.size 60 i0 (.agg #[.int .u8 0, .int .i64 0, .int .i64 0]) 3 24 Try.underlying55 hi0 hz0 hz1 hz2 rfl (by decide) _ _ _ rfl (HO1.out.alloc _) ⟨w1.heap.size, 0, none⟩ 1 1 (tC (0, ((s'[0]'h0).toNat : Int), (D : Int))) rfl rfl D1.out D2.out D3.out D4.out D5.out ?_)
            intro v' w2 hown' hgrow _
            have BW := Lib.hid (below_own (HB1.out.alloc hw1 _) hgrow (by simp; omega) (HO1.out.alloc _) (Nat.le_refl _))
            obtain ⟨oa2, oc2, rfl⟩ := own_form hown'
            have OW : Hid (w2.ownsRow w.heap.size 60 3 (.slice oa2 (acc ++ [(0, ((s'[0]'h0).toNat : Int), (D : Int))]).length oc2) (acc ++ [(0, ((s'[0]'h0).toNat : Int), (D : Int))]).length ((acc ++ [(0, ((s'[0]'h0).toNat : Int), (D : Int))]).flatMap tC)) := by
              show w2.ownsRow _ _ _ _ _ _
              rw [List.length_append, tCs_snoc]
              exact hown'
            clear hown' hgrow r0 r1 r2
            have hx : (s'.extract 3 s'.size).size = s'.size - 3 := by rw [← strN_length, extract_strN, List.length_drop, strN_length]
            have HX := Lib.hid hx
            clear hx
            go_wp2_with fail
            go_roundw
            case rel => exact ⟨s'.extract 3 s'.size, acc ++ [(0, ((s'[0]'h0).toNat : Int), (D : Int))], oa2, oc2, rfl, by rw [List.length_append]; rfl, by rw [HX.out]; omega, by rw [List.length_append]; exact HK2.out, OW.out, BW.out, by rw [List.length_append]; exact HNEW.out.symm.trans HC.out⟩
            case measure => simp only [szOf]; rw [HX.out]; omega
end Go.Proofs.Ytaipojclfpgaaaa
