/- The walks of escaped and GlobPlain. Printed by gen_globplain.py. -/
import Derived.Test.YtokckcmkbnhhhaaDoorGlobMatch
import Derived.Test.YtokckcmkbnhhhaaDoorGlobLaw
import Derived.Test.YtokckcmkbnhhhaaDoorBytesOwn
import Derived.Lib.ConvBytes
namespace Go.Proofs.YtokckcmkbnhhhaaDoor
open Go.RowKit Plain
set_option linter.unusedVariables false
set_option linter.unusedSimpArgs false
theorem info_u8G : ∃ i, Tryd.prog.info? 5 = some i ∧ i.zero = some (.int .u8 0) ∧ i.size = 1 ∧ i.bytes = 1 := info_parts (by kernel_rfl)
theorem idx_special : ∀ n : Nat, n < 256 → decide (0 ≤ Lib.indexByte [42, 63, 91, 92] n.toUInt8) = special n.toUInt8 := by decide +kernel
def nT (l : T) : List Nat := l.map UInt8.toNat
theorem nT_bT (s : ByteArray) : nT (bT s) = strN s := rfl
theorem nT_lt (l : T) : ∀ c ∈ nT l, c < 256 := fun c hc => by
  obtain ⟨b, _, rfl⟩ := List.mem_map.1 hc
  exact b.toNat_lt
theorem nT_append (l m : T) : nT (l ++ m) = nT l ++ nT m := by simp [nT]
theorem strOf_nT (l : T) : strOf (nT l) = ⟨l.toArray⟩ := by
  have := strOf_strN ⟨l.toArray⟩
  rwa [← nT_bT, show bT ⟨l.toArray⟩ = l from bT_mk l] at this
theorem escP_len (l : T) : (escP l).length ≤ 2 * l.length := by
  induction l with
  | nil => simp [escP]
  | cons b l ih => rw [escP]; split <;> simp <;> omega
theorem escP_take {l : T} {i : Nat} (h : i < l.length) : escP (l.take (i + 1)) = escP (l.take i) ++ (if special l[i] = true then [92, l[i]] else [l[i]]) := by
  rw [List.take_succ_eq_append_getElem h, escP_append, escP, escP]
def EscEnd (s : ByteArray) (w0 : World) (e : Ending) (w : World) : Prop := e = .returned (.string ⟨(escP (bT s)).toArray⟩) ∧ Below w0.heap.size w0 w
set_option maxRecDepth 100000 in
set_option maxHeartbeats 4000000 in
theorem escaped_any (s : ByteArray) (w : World) (hs : s.size ≤ 1048576) : Calls Tryd.prog 30 #[.string s] w (EscEnd s w) := by
  obtain ⟨i0, hi0, hz0, hz1, hz2⟩ := info_u8G
  have hconv := Lib.run_convert_string_bytes (P := Tryd.prog) w 9 75 5 s Tryd.underlying9 Tryd.underlying75 Tryd.underlying5
  have HBC := Lib.hid (bytesWorld_below (w := w) 5 s)
  have HCL := Lib.hid (fun j (hj : j < s.size) => bytesWorld_cellN w 5 s j hj)
  have HXZ : Hid (w.heap.size < (Lib.bytesWorld w 5 s).heap.size) := Lib.hid (lt_of_block (Lib.bytesWorld_at_new w 5 s))
  have HSZ := Lib.hid hs
  have HIX := Lib.hid fun (c : Int) (wx : World) => Tryd.strings_IndexByte ⟨#[42, 63, 91, 92]⟩ c wx
  obtain ⟨cp, hcp⟩ : ∃ c, grownCap w s.size 0 5 = c := ⟨_, rfl⟩
  have HCP : Hid (s.size ≤ cp) := Lib.hid (by rw [← hcp]; have := grownCap_ge w s.size 0 5; omega)
  rw [hcp] at hconv
  obtain ⟨wb, hwb⟩ : ∃ wb, Lib.bytesWorld w 5 s = wb := ⟨_, rfl⟩
  rw [hwb] at hconv HBC HCL HXZ
  clear hcp hwb
  go_enter Tryd.func30, Tryd.ntmps30
  go_wp2_with fail
  clear hconv
  go_loopw [3, 9] (fun ov iv wr => ∃ (i : Nat) (oa : Option Addr) (oc : Nat), i ≤ s.size ∧ iv = .int .i64 (i : Int) ∧ ov = .slice oa (escP ((bT s).take i)).length oc ∧ Hid (wr.ownsRow wb.heap.size 5 1 (.slice oa (escP ((bT s).take i)).length oc) (escP ((bT s).take i)).length ((nT (escP ((bT s).take i))).map bV)) ∧ Hid (Below wb.heap.size wb wr)) (fun _ iv _ => s.size - (intOf iv).toNat)
  case atStart => exact ⟨0, none, 0, by omega, rfl, rfl, Lib.hid (World.ownsRow_nil _ _ _ _), Lib.hid (Below.refl _ _)⟩
  case round =>
    obtain ⟨i, oa, oc, hi, rfl, rfl, HO0, HB0⟩ := hrel
    have hbl : (bT s).length = s.size := bT_length s
    by_cases hlt : i < s.size
    · have m1 : (i : Int) < (s.size : Int) := by omega
      have hlb : i < (bT s).length := by omega
      have hc := (HB0.out.cell (p := ⟨w.heap.size, i, none⟩) HXZ.out).trans (HCL.out i hlt)
      have hsx := escP_take hlb
      have hbyte : (strN s).getD i 0 = ((bT s)[i]).toNat := by
        rw [← nT_bT, List.getD_eq_getElem?_getD, nT, List.getElem?_map, List.getElem?_eq_getElem hlb]; rfl
      rw [hbyte] at hc
      have HES := Lib.hid hsx
      have HLZ : Hid ((escP ((bT s).take i)).length ≤ 2097152) := Lib.hid (by
        have := escP_len ((bT s).take i)
        rw [List.length_take] at this
        have := HSZ.out
        omega)
      have hix := HIX.out ((((bT s)[i]).toNat : Nat) : Int)
      have hn : ((((bT s)[i]).toNat : Nat) : Int).toNat.toUInt8 = (bT s)[i] := by rw [Int.toNat_natCast]; simp
      have hsp := idx_special ((bT s)[i]).toNat ((bT s)[i]).toNat_lt
      rw [hn] at hix
      rw [show ((bT s)[i]).toNat.toUInt8 = (bT s)[i] by simp] at hsp
      have HIX2 := Lib.hid fun wx => hix wx
      have HBV : Hid (bV ((bT s)[i]).toNat = .int .u8 ((((bT s)[i]).toNat : Nat) : Int)) := Lib.hid rfl
      have HNB : Hid (nT [(bT s)[i]] = [((bT s)[i]).toNat]) := Lib.hid rfl
      have HNC : Hid (nT [92, (bT s)[i]] = [92, ((bT s)[i]).toNat]) := Lib.hid rfl
      have HSP := Lib.hid hsp
      clear hix hn hsp hsx hbyte hbl
      generalize (bT s)[i] = b at *
      clear hlb
      generalize hE : escP ((bT s).take i) = E at *
      generalize hE2 : escP ((bT s).take (i + 1)) = E2 at *
      have HEQ2 := Lib.hid hE2
      clear hE hE2
      generalize b.toNat = n at *
      obtain ⟨r, hr⟩ : ∃ r : Int, Lib.indexByte (⟨#[42, 63, 91, 92]⟩ : ByteArray).data.toList b = r := ⟨_, rfl⟩
      have HSQ : Hid (decide (0 ≤ r) = special b) := Lib.hid (by rw [← hr]; exact HSP.out)
      rw [hr] at HIX2
      clear hr HSP
      go_wp2_with fail
      refine (HIX2.out _).mono ?_
      rintro e w2 ⟨rfl, hw2⟩
      subst hw2
      clear HIX2
      have HOw2 := HO0
      have HBw2 : Hid (Below wb.heap.size wb w2) := HB0
      clear HO0 HB0
      cases hsb : special b with
      | true =>
        rw [hsb] at HSQ
        have f1 : (0 : Int) ≤ r := of_decide_eq_true HSQ.out
        have HEE : Hid (E2 = E ++ [92, b]) := Lib.hid (by rw [HES.out, hsb]; rfl)
        clear HSQ HES hsb
        have HAL := Lib.hid ((Below.refl w2.heap.size w2).alloc (Nat.le_refl _) (.cells #[.int .u8 92] 5))
        have D1 := Lib.hid (cells_new_at w2 w2.heap.size rfl #[.int .u8 92] 5 [.int .u8 92] rfl)
        have D2 : Hid (∀ u ∈ ([.int .u8 92] : List Value), u.oneCell' = true) := Lib.hid (by intro u hu; rw [List.mem_singleton] at hu; subst hu; rfl)
        have D3 : Hid ((E).length + 1 ≤ maxLen) := Lib.hid (by have := HLZ.out; unfold maxLen; omega)
        have D4 : Hid (((E).length + 1) * 1 ≤ 140737488355328) := Lib.hid (by have := HLZ.out; omega)
        have D5 : Hid (wb.heap.size ≤ (w2.alloc (.cells #[.int .u8 92] 5)).heap.size) := Lib.hid (by have := HBw2.out.size; simp; omega)
        have HOA := Lib.hid (own_belowG HOw2.out HAL.out)
        have HBA := Lib.hid (Below.step HBw2.out HAL.out)
        clear HAL HOw2 HBw2
        go_wp2_with (at_builtin; refine wpList_append_own _ rfl _ _ 75 rfl wb.heap.size 5 i0 (.int .u8 0) 1 1 Tryd.underlying75 hi0 hz0 hz1 hz2 rfl (by decide) _ _ _ rfl HOA.out ⟨w2.heap.size, 0, none⟩ 1 1 [.int .u8 92] rfl rfl D1.out D2.out D3.out D4.out D5.out ?_)
        intro v' w3 hown' hgrow _
        obtain ⟨oaw3, ocw3, rfl⟩ := own_formG hown'
        have HBw3 := Lib.hid (HBA.out.grown hgrow (by have h9 := HBA.out.size; exact h9) (fun k hk => (HOA.out.lt k hk).1))
        clear hgrow HOA HBA D1 D2 D3 D4 D5
        have HOw3 : Hid (w3.ownsRow wb.heap.size 5 1 (.slice oaw3 (E ++ [92]).length ocw3) (E ++ [92]).length ((nT (E ++ [92])).map bV)) := Lib.hid (by
          rw [List.length_append, nT_append, List.map_append]
          exact hown')
        have hE1 : E.length + 1 = (E ++ [92]).length := by simp
        have HLZ : Hid ((E ++ [92]).length ≤ 2097153) := Lib.hid (by rw [List.length_append]; have := HLZ.out; simp; omega)
        rw [hE1]
        have HEE : Hid (E2 = (E ++ [92]) ++ [b]) := Lib.hid (by rw [HEE.out, List.append_assoc]; rfl)
        clear hown' hE1
        generalize E ++ [92] = E1 at *
        have HAL := Lib.hid ((Below.refl w3.heap.size w3).alloc (Nat.le_refl _) (.cells #[.int .u8 (n : Int)] 5))
        have D1 := Lib.hid (cells_new_at w3 w3.heap.size rfl #[.int .u8 (n : Int)] 5 [.int .u8 (n : Int)] rfl)
        have D2 : Hid (∀ u ∈ ([.int .u8 (n : Int)] : List Value), u.oneCell' = true) := Lib.hid (by intro u hu; rw [List.mem_singleton] at hu; subst hu; rfl)
        have D3 : Hid ((E1).length + 1 ≤ maxLen) := Lib.hid (by have := HLZ.out; unfold maxLen; omega)
        have D4 : Hid (((E1).length + 1) * 1 ≤ 140737488355328) := Lib.hid (by have := HLZ.out; omega)
        have D5 : Hid (wb.heap.size ≤ (w3.alloc (.cells #[.int .u8 (n : Int)] 5)).heap.size) := Lib.hid (by have := HBw3.out.size; simp; omega)
        have HOA := Lib.hid (own_belowG HOw3.out HAL.out)
        have HBA := Lib.hid (Below.step HBw3.out HAL.out)
        clear HAL HOw3 HBw3
        go_wp2_with (at_builtin; refine wpList_append_own _ rfl _ _ 75 rfl wb.heap.size 5 i0 (.int .u8 0) 1 1 Tryd.underlying75 hi0 hz0 hz1 hz2 rfl (by decide) _ _ _ rfl HOA.out ⟨w3.heap.size, 0, none⟩ 1 1 [.int .u8 (n : Int)] rfl rfl D1.out D2.out D3.out D4.out D5.out ?_)
        intro v' w4 hown' hgrow _
        obtain ⟨oaw4, ocw4, rfl⟩ := own_formG hown'
        have HBw4 := Lib.hid (HBA.out.grown hgrow (by have h9 := HBA.out.size; exact h9) (fun k hk => (HOA.out.lt k hk).1))
        clear hgrow HOA HBA D1 D2 D3 D4 D5
        have HO4 : Hid (w4.ownsRow wb.heap.size 5 1 (.slice oaw4 E2.length ocw4) E2.length ((nT E2).map bV)) := Lib.hid (by
          rw [HEE.out, List.length_append, nT_append, List.map_append, HNB.out]
          exact hown')
        have hEL : E2.length = E1.length + 1 := by rw [HEE.out, List.length_append]; rfl
        clear hown'
        go_wp2_with fail
        go_roundw
        case rel => exact ⟨i + 1, oaw4, ocw4, by omega, by go_num, by rw [HEQ2.out, hEL], by rw [HEQ2.out]; exact HO4, HBw4⟩
        case measure => simp [intOf]; omega
      | false =>
        rw [hsb] at HSQ
        have f1 : ¬ (0 : Int) ≤ r := of_decide_eq_false HSQ.out
        have HEE : Hid (E2 = E ++ [b]) := Lib.hid (by rw [HES.out, hsb]; rfl)
        clear HSQ HES hsb
        have HAL := Lib.hid ((Below.refl w2.heap.size w2).alloc (Nat.le_refl _) (.cells #[.int .u8 (n : Int)] 5))
        have D1 := Lib.hid (cells_new_at w2 w2.heap.size rfl #[.int .u8 (n : Int)] 5 [.int .u8 (n : Int)] rfl)
        have D2 : Hid (∀ u ∈ ([.int .u8 (n : Int)] : List Value), u.oneCell' = true) := Lib.hid (by intro u hu; rw [List.mem_singleton] at hu; subst hu; rfl)
        have D3 : Hid ((E).length + 1 ≤ maxLen) := Lib.hid (by have := HLZ.out; unfold maxLen; omega)
        have D4 : Hid (((E).length + 1) * 1 ≤ 140737488355328) := Lib.hid (by have := HLZ.out; omega)
        have D5 : Hid (wb.heap.size ≤ (w2.alloc (.cells #[.int .u8 (n : Int)] 5)).heap.size) := Lib.hid (by have := HBw2.out.size; simp; omega)
        have HOA := Lib.hid (own_belowG HOw2.out HAL.out)
        have HBA := Lib.hid (Below.step HBw2.out HAL.out)
        clear HAL HOw2 HBw2
        go_wp2_with (at_builtin; refine wpList_append_own _ rfl _ _ 75 rfl wb.heap.size 5 i0 (.int .u8 0) 1 1 Tryd.underlying75 hi0 hz0 hz1 hz2 rfl (by decide) _ _ _ rfl HOA.out ⟨w2.heap.size, 0, none⟩ 1 1 [.int .u8 (n : Int)] rfl rfl D1.out D2.out D3.out D4.out D5.out ?_)
        intro v' w3 hown' hgrow _
        obtain ⟨oaw3, ocw3, rfl⟩ := own_formG hown'
        have HBw3 := Lib.hid (HBA.out.grown hgrow (by have h9 := HBA.out.size; exact h9) (fun k hk => (HOA.out.lt k hk).1))
        clear hgrow HOA HBA D1 D2 D3 D4 D5
        have HO3 : Hid (w3.ownsRow wb.heap.size 5 1 (.slice oaw3 E2.length ocw3) E2.length ((nT E2).map bV)) := Lib.hid (by
          rw [HEE.out, List.length_append, nT_append, List.map_append, HNB.out]
          exact hown')
        have hEL : E2.length = E.length + 1 := by rw [HEE.out, List.length_append]; rfl
        clear hown'
        go_wp2_with fail
        go_roundw
        case rel => exact ⟨i + 1, oaw3, ocw3, by omega, by go_num, by rw [HEQ2.out, hEL], by rw [HEQ2.out]; exact HO3, HBw3⟩
        case measure => simp [intOf]; omega
    · have m1 : ¬ (i : Int) < (s.size : Int) := by omega
      have hE : escP ((bT s).take i) = escP (bT s) := by rw [List.take_of_length_le (by omega)]
      rw [hE] at HO0
      rw [hE]
      have hst := run_string_own (P := Tryd.prog) wr 75 5 9 Tryd.underlying75 Tryd.underlying5 Tryd.underlying9 (nT_lt (escP (bT s))) (by simpa [nT] using HO0.out)
      rw [strOf_nT] at hst
      have HEND : Hid (Below w.heap.size w wr) := Lib.hid (HBC.out.trans (HB0.out.mono HBC.out.size))
      obtain ⟨x, hx⟩ : ∃ x : ByteArray, ⟨(escP (bT s)).toArray⟩ = x := ⟨_, rfl⟩
      rw [hx] at hst
      have HES := Lib.hid hx
      clear hE HO0 HB0 hx
      go_wp2_with fail
      go_ret
      exact ⟨by rw [HES.out]; rfl, HEND.out⟩
end Go.Proofs.YtokckcmkbnhhhaaDoor
