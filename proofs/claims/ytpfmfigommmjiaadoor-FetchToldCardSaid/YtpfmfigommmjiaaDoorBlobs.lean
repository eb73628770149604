/- fetch.Blobs: the blobs of the strings' records. -/
import Derived.Test.YtpfmfigommmjiaaDoorTexts
import Derived.Test.YtpfmfigommmjiaaDoorScanW
import Derived.Test.YtpfmfigommmjiaaDoorStrCalls
import Derived.Test.YtpfmfigommmjiaaDoorTake
namespace Go.Proofs.YtpfmfigommmjiaaDoor
open Go.RowKit Plain
set_option linter.unusedVariables false
set_option linter.unusedSimpArgs false
def bls (l : List Bl) : List Value := l.flatMap blC
theorem info_bl : (Tryd.prog.info? 28).map (fun i => (i.zero, i.size, i.bytes)) = some (some (.agg #[.int .i64 0, .string ⟨#[]⟩]), 2, 24) := by kernel_rfl
def BbEnd (w0 : World) (m : List Bl) (ok : Bool) (e : Ending) (w : World) : Prop :=
  ∃ (oa : Option Addr) (oc : Nat), e = .returned (.tuple #[.slice oa m.length oc, .bool ok]) ∧ w.ownsRow w0.heap.size 28 2 (.slice oa m.length oc) m.length (bls m) ∧ Below w0.heap.size w0 w
set_option maxRecDepth 100000 in
set_option maxHeartbeats 4000000 in
theorem blobs_any (a : Option Addr) (cap : Nat) (ts : List ByteArray) (m : List Bl) (k : Nat) (w : World) (h : SAt 1 sC w a ts) (hN : ts.length ≤ 140737488355328) (hc : ts.length ≤ cap) (hlen : (ts.map strN).flatten.length ≤ 70000000)
    (hS : Scan idf ((ts.map strN).flatten) (m.map blN) k) (hm : ∀ b ∈ m, 1 ≤ b.1 ∧ b.1 ≤ 3) :
    Calls Tryd.prog 6 #[.slice a ts.length cap] w (BbEnd w m (decide (k = ((ts.map strN).flatten).length))) := by
  obtain ⟨i0, hi0, hz0, hz1, hz2⟩ := info_parts info_bl
  have HJ := Lib.hid (join_any a cap ts w h hN hc (by omega))
  have hlt : ∀ c ∈ (ts.map strN).flatten, c < 256 := fun c hc => by
    obtain ⟨l, hl, h2⟩ := List.mem_flatten.1 hc
    obtain ⟨s, _, rfl⟩ := List.mem_map.1 hl
    exact strN_lt s c h2
  obtain ⟨T, hT⟩ : ∃ T, strOf ((ts.map strN).flatten) = T := ⟨_, rfl⟩
  have hTs : T.size = ((ts.map strN).flatten).length := by rw [← hT, strOf_size]
  have hTN : strN T = (ts.map strN).flatten := by rw [← hT, strN_strOf _ hlt]
  unfold JoinEnd at HJ
  rw [hT] at HJ
  have HSC := Lib.hid fun u => scan_any T u (by omega)
  have HS := Lib.hid hS
  rw [← hTN] at HS
  rw [← hTs]
  have HM := Lib.hid hm
  have HTS := Lib.hid hTs
  clear h hlt hT hTN hS hm hTs
  go_enter Tryd.func6, Tryd.ntmps6
  go_wp2_with fail
  refine HJ.out.mono ?_
  rintro e w1 ⟨rfl, hb1⟩
  have HB1 := Lib.hid hb1
  clear hb1 HJ
  go_wp2_with fail
  refine (HSC.out _).mono ?_
  rintro e w2 ⟨rs, p, ra, rc, hsc, hp, hrl, rfl, hown, hb2⟩
  obtain ⟨e1, e2⟩ := hsc.unique HS.out
  subst e2
  have e3 : rs.length = m.length := by have := congrArg List.length e1; simpa using this
  have hml : m.length ≤ 70000000 := by have := HTS.out; omega
  have hsat : SAt 1 sC w2 ra rs := sat_own1 (c := sC) (fun _ => rfl) hown
  rw [e3]
  have HB2 := Lib.hid (HB1.out.trans (hb2.mono HB1.out.size))
  have HR := Lib.hid hsat
  have HE1 := Lib.hid e1
  have HE3 := Lib.hid e3
  clear hsc hp hrl hown hb2 HSC HS e1 e3 hsat
  go_wp2_with fail
  go_loopw [7, 19] (fun ov iv wr => ∃ (i : Nat) (oa : Option Addr) (oc : Nat), i ≤ m.length ∧ iv = .int .i64 (i : Int) ∧ ov = .slice oa i oc ∧ Hid (wr.ownsRow w2.heap.size 28 2 (.slice oa i oc) i (bls (m.take i))) ∧ Hid (Below w2.heap.size w2 wr)) (fun _ iv _ => m.length - (intOf iv).toNat)
  case atStart => exact ⟨0, none, 0, Nat.zero_le _, rfl, rfl, Lib.hid (World.ownsRow_nil _ _ _ _), Lib.hid (Below.refl _ _)⟩
  case round =>
    obtain ⟨i, oa, oc, hi, rfl, rfl, HO, HBR⟩ := hrel
    by_cases hlt : i < m.length
    · have kk : (i : Int) < (m.length : Int) := by omega
      have hlt2 : i < rs.length := by rw [HE3.out]; exact hlt
      obtain ⟨g, off, rfl, hcell⟩ := str_cell (HR.out.below HBR.out) i hlt2
      have hri : strN rs[i] = blN m[i] := by
        have h1 : (rs.map strN)[i]? = (m.map blN)[i]? := by rw [HE1.out]
        rw [List.getElem?_map, List.getElem?_map, List.getElem?_eq_getElem hlt2, List.getElem?_eq_getElem hlt] at h1
        exact Option.some.inj h1
      have hmi := HM.out _ (List.getElem_mem hlt)
      have htk : m.take (i + 1) = m.take i ++ [m[i]] := List.take_succ_eq_append_getElem hlt
      generalize rs[i] = r at *
      generalize m[i] = bl at *
      obtain ⟨c, s⟩ := bl
      simp only at hmi
      obtain ⟨n, rfl⟩ := Int.eq_ofNat_of_zero_le (show 0 ≤ c by omega)
      have hrs : r.size = s.size + 1 := by rw [← strN_length r, hri]; show (strN s).length + 1 = _; rw [strN_length]
      have hr0 : (strN r).getD 0 0 = n := by rw [hri]; rfl
      have hrx : r.extract 1 r.size = s := strN_inj (by rw [extract_strN, hri]; rfl)
      have f0 := isEmpty_false' (s := r) (by omega)
      have hp0 : 0 < r.size := by omega
      have hb0 : (r[0]'hp0).toNat = n := by rw [byte_get]; exact hr0
      have wm : IntKind.i64.wrap (n : Int) = (n : Int) := wraps_i64 _ (by omega) (by omega)
      have wn : wrap64 (n : Int) = (n : Int) := by unfold wrap64; omega
      have z1 : (1 : Int) ≤ (r.size : Int) := by omega
      have HEN : Hid (bls (m.take (i + 1)) = bls (m.take i) ++ [.int .i64 (n : Int), .string s]) := by show _ = _; rw [htk, bls, List.flatMap_append, List.flatMap_singleton]; rfl
      have HKN := Lib.hid fun u => pkn_any (n : Int) u
      rw [decide_eq_true hmi] at HKN
      have HLT := Lib.hid hlt
      have HRX := Lib.hid hrx
      have HX : Hid (Below w.heap.size w wr) := Lib.hid (HB2.out.trans (HBR.out.mono HB2.out.size))
      clear htk hlt hlt2 hri hrs hr0 hrx hmi
      go_wp2_with fail
      refine (HKN.out _).mono ?_
      rintro e w3 ⟨rfl, rfl⟩
      go_wp2_with fail
      refine wp_region_noPanic ?_
      refine wp_region_held_drew (S := fun _ => True) (by kernel_rfl) trivial (fun _ => ?_)
      refine tv 0 (.slice oa i oc) trivial ?_
      refine tv 1 (.string r) trivial ?_
      refine tv 2 (.int .u8 (n : Int)) trivial ?_
      refine tv 3 (.int .i64 (n : Int)) trivial ?_
      refine tv 4 (.string r) trivial ?_
      refine tv 5 (.string s) trivial ?_ (hv := fun wz _ => by have h := HRX.out; go_simp)
      refine tv 6 (.agg #[.int .i64 (n : Int), .string s]) trivial ?_
      refine rv 7 (fun K hK => ?_)
      refine wp_value_run (v := .slice (some ⟨w3.heap.size, 0, none⟩) 1 1) (w' := w3.drew.alloc (.cells #[.int .i64 (n : Int), .string s] 28)) (by go_simp) ?_
      refine hK.out _ _ trivial ?_
      clear hK K
      simp only [List.set_cons_zero, List.set_cons_succ]
      refine rv 8 (fun K hK => ?_)
      have D1 := cells_new_at w3.drew w3.heap.size rfl #[.int .i64 (n : Int), .string s] 28 [.int .i64 (n : Int), .string s] rfl
      have hB3 : Below w2.heap.size w2 (w3.drew.alloc (.cells #[.int .i64 (n : Int), .string s] 28)) := HBR.out.drew.alloc HBR.out.size _
      have hO3 : w3.drew.ownsRow w2.heap.size 28 2 (.slice oa i oc) i (bls (m.take i)) := HO.out
      refine wp_append_own _ _ _ 22 rfl w2.heap.size 28 i0 (.agg #[.int .i64 0, .string ⟨#[]⟩]) 2 24 Tryd.underlying22 hi0 hz0 hz1 hz2 rfl (by decide) _ _ _ rfl (hO3.alloc _) ⟨w3.heap.size, 0, none⟩ 1 1 [.int .i64 (n : Int), .string s] rfl rfl D1 (by simp [Value.oneCell']) (by unfold maxLen; omega) (by omega) hB3.size ?_
      intro v' w4 hown' hgrow _
      have HB4 := Lib.hid (below_own hB3 hgrow hB3.size (hO3.alloc _) (Nat.le_refl _))
      obtain ⟨oa2, oc2, rfl⟩ := own_form' hown'
      rw [← HEN.out] at hown'
      have HO4 := Lib.hid hown'
      refine hK.out _ _ trivial ?_
      clear hK K hown' hgrow hB3 hO3 D1
      simp only [List.set_cons_zero, List.set_cons_succ]
      refine tv 9 (.slice oa2 (i + 1) oc2) trivial ?_
      refine wpAnyH_done (by kernel_rfl) ?_ _
      refine NoPanic.normal ?_
      go_wp2_with fail
      go_roundw
      case rel => exact ⟨i + 1, oa2, oc2, HLT.out, by go_num, rfl, HO4, HB4⟩
      case measure => simp [intOf]; have := HLT.out; omega
    · obtain rfl : i = m.length := by omega
      have m1 : ¬ (m.length : Int) < (m.length : Int) := by omega
      have hO := HO.out
      rw [List.take_length] at hO
      have HO2 := Lib.hid hO
      clear hO HO
      go_wp2_with fail
      go_ret2
      have he : decide (p = T.size) = ((p : Int) == (T.size : Int)) := by
        by_cases e : p = T.size
        · simp [e]
        · simp [e]; omega
      exact ⟨oa, oc, by rw [he]; rfl, own_mono HO2.out HB2.out.size, HB2.out.trans (HBR.out.mono HB2.out.size)⟩
end Go.Proofs.YtpfmfigommmjiaaDoor
