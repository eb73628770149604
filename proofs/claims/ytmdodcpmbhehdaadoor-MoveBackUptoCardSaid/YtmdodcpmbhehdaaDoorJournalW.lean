/- The walks of journal.Frame and journal.All. -/
import Derived.Test.YtmdodcpmbhehdaaDoorNumW
import Derived.Test.YtmdodcpmbhehdaaDoorJournalPlain
import Derived.Test.YtmdodcpmbhehdaaDoorMixApartW
import Derived.Test.YtmdodcpmbhehdaaDoorStrCalls
import Derived.Lib.AppendStr
namespace Go.Proofs.YtmdodcpmbhehdaaDoor
open Go.RowKit Plain
/-- the digest of a list of bytes -/
def idf (l : List Nat) : List Nat := be8 (hsum l)
theorem idf_length (l : List Nat) : (idf l).length = 8 := rfl
theorem idf_lt (l : List Nat) : ∀ c ∈ idf l, c < 256 := be8_lt _
theorem idf_eight (l : List Nat) : ∃ d0 d1 d2 d3 d4 d5 d6 d7, idf l = [d0, d1, d2, d3, d4, d5, d6, d7] := ⟨_, _, _, _, _, _, _, _, rfl⟩
def FrEnd (w0 : World) (s : ByteArray) (e : Ending) (w : World) : Prop :=
  ((4096 < s.size ∧ e = .returned (.tuple #[.string ⟨#[]⟩, .int .i64 2])) ∨ (∃ f : ByteArray, Frm idf (strN s) (strN f) ∧ f.size ≤ 4200 ∧ e = .returned (.tuple #[.string f, .int .i64 0]))) ∧ Below w0.heap.size w0 w
set_option maxRecDepth 100000 in
set_option maxHeartbeats 1000000 in
theorem frame_any (s : ByteArray) (w : World) (hs : s.size ≤ 9223372036854775807) : Calls Tryd.prog 23 #[.string s] w (FrEnd w s) := by
  by_cases h0 : 4096 < s.size
  · have f0 : (4096 : Int) < (s.size : Int) := by omega
    go_enter Tryd.func23, Tryd.ntmps23
    go_wp2_with fail
    go_ret2
    exact ⟨.inl ⟨h0, rfl⟩, Below.refl _ _⟩
  · have f0 : ¬ (4096 : Int) < (s.size : Int) := by omega
    have HP := Lib.hid fun u => put_any s.size (by omega) u
    have e1 : IntKind.u64.wrap (s.size : Int) = (s.size : Int) := by
      show (s.size : Int) % 18446744073709551616 = _
      omega
    go_enter Tryd.func23, Tryd.ntmps23
    go_wp2_with fail
    refine (HP.out _).mono ?_
    rintro e w1 ⟨p, hp, rfl, hb1⟩
    have hp9 : p.size ≤ 9 := by have := hp.length.2; rwa [strN_length] at this
    have h63 : p.size + s.size ≤ 9223372036854775807 := by omega
    have hz : (p ++ s).size = p.size + s.size := by simp
    have HID := Lib.hid fun u => id_bC (p ++ s) u (by omega)
    have B1 := Lib.hid hb1
    have HPN := Lib.hid hp
    obtain ⟨d0, d1, d2, d3, d4, d5, d6, d7, hd⟩ := idf_eight (strN (p ++ s))
    have hdlt : ∀ c ∈ [d0, d1, d2, d3, d4, d5, d6, d7], c < 256 := by rw [← hd]; exact idf_lt _
    have HDL := Lib.hid hdlt
    have HD := Lib.hid hd
    have hbc : bC (be8 (hsum (strN (p ++ s)))) = #[.int .u8 (d0 : Int), .int .u8 (d1 : Int), .int .u8 (d2 : Int), .int .u8 (d3 : Int), .int .u8 (d4 : Int), .int .u8 (d5 : Int), .int .u8 (d6 : Int), .int .u8 (d7 : Int)] := by
      show bC (idf _) = _
      rw [hd]
      rfl
    rw [hbc] at HID
    clear hb1 hp hd hdlt hbc
    go_wp2_with fail
    refine (HID.out _).mono ?_
    rintro e w2 ⟨rfl, hb2⟩
    have B2 := Lib.hid (Below.step B1.out hb2)
    clear hb2
    have hcv := Lib.run_convert_whole (P := Tryd.prog) (w2.alloc (.cells #[.int .u8 (d0 : Int), .int .u8 (d1 : Int), .int .u8 (d2 : Int), .int .u8 (d3 : Int), .int .u8 (d4 : Int), .int .u8 (d5 : Int), .int .u8 (d6 : Int), .int .u8 (d7 : Int)] 43)) 62 5 9 Tryd.underlying62 Tryd.underlying5 Tryd.underlying9 w2.heap.size 0 (strOf [d0, d1, d2, d3, d4, d5, d6, d7]) (BRow.bytes (BRow.new w2 43 [d0, d1, d2, d3, d4, d5, d6, d7]) _ (strN_strOf _ HDL.out)) 8
    rw [strOf_size, show ([d0, d1, d2, d3, d4, d5, d6, d7] : List Nat).length = 8 from rfl] at hcv
    have h64 : (p ++ s).size + (strOf [d0, d1, d2, d3, d4, d5, d6, d7]).size ≤ 9223372036854775807 := by
      rw [hz, strOf_size]
      show _ + 8 ≤ _
      omega
    have HF : Hid (Frm idf (strN s) (strN (p ++ s ++ strOf [d0, d1, d2, d3, d4, d5, d6, d7]))) := by
      have ha : ∀ x y : ByteArray, strN (x ++ y) = strN x ++ strN y := fun x y => by simp [strN]
      refine ⟨by rw [strN_length]; omega, strN p, by rw [strN_length]; exact HPN.out, ?_⟩
      rw [ha, strN_strOf _ HDL.out, ← HD.out, ha]
    have HZ : Hid ((p ++ s ++ strOf [d0, d1, d2, d3, d4, d5, d6, d7]).size ≤ 4200) := by
      have hz2 : (p ++ s ++ strOf [d0, d1, d2, d3, d4, d5, d6, d7]).size = p.size + s.size + 8 := by
        have : (p ++ s ++ strOf [d0, d1, d2, d3, d4, d5, d6, d7]).size = (p ++ s).size + (strOf [d0, d1, d2, d3, d4, d5, d6, d7]).size := by simp
        rw [this, hz, strOf_size]; rfl
      show _ ≤ _
      omega
    have BW := Lib.hid (B2.out.alloc B2.out.size (.cells #[.int .u8 (d0 : Int), .int .u8 (d1 : Int), .int .u8 (d2 : Int), .int .u8 (d3 : Int), .int .u8 (d4 : Int), .int .u8 (d5 : Int), .int .u8 (d6 : Int), .int .u8 (d7 : Int)] 43))
    clear hz
    go_wp2_with fail
    go_ret2
    exact ⟨.inr ⟨_, HF.out, HZ.out, rfl⟩, BW.out⟩
theorem strCells_bV (s : ByteArray) : Lib.strCells s = (strN s).map bV := by
  simp [Lib.strCells, strN, bV]
/-- all frames together are short enough -/
def AllOk (l : List ByteArray) : Prop := ∃ t, Frms idf (l.map strN) t ∧ t.length ≤ 65536
theorem AllOk.take {l : List ByteArray} (h : AllOk l) (k : Nat) {o : List Nat} (ho : Frms idf ((l.take k).map strN) o) : o.length ≤ 65536 := by
  obtain ⟨t, ht, hl⟩ := h
  rw [← List.take_append_drop k l, List.map_append] at ht
  obtain ⟨u, v, hu, _, rfl⟩ := ht.cutAt
  rw [ho.unique hu]
  rw [List.length_append] at hl
  omega
theorem AllOk.small {l : List ByteArray} (h : AllOk l) (k : Nat) (hk : k < l.length) : l[k].size ≤ 4096 := by
  obtain ⟨t, ht, hl⟩ := h
  rw [← List.take_append_drop k l, List.drop_eq_getElem_cons hk, List.map_append, List.map_cons] at ht
  obtain ⟨u, v, _, hv, _⟩ := ht.cutAt
  obtain ⟨f, u2, hf, _, _⟩ := hv.split
  have := hf.1
  rwa [strN_length] at this
def AllEnd (w0 : World) (l : List ByteArray) (e : Ending) (w : World) : Prop :=
  ((∃ t : ByteArray, Frms idf (l.map strN) (strN t) ∧ t.size ≤ 65536 ∧ e = .returned (.tuple #[.string t, .int .i64 0])) ∨ (∃ c : Nat, c ≠ 0 ∧ ¬ AllOk l ∧ e = .returned (.tuple #[.string ⟨#[]⟩, .int .i64 (c : Int)]))) ∧ Below w0.heap.size w0 w
set_option maxRecDepth 100000 in
set_option maxHeartbeats 2000000 in
theorem all_any (a : Option Addr) (cap : Nat) (l : List ByteArray) (w : World) (hl : SAt 1 sC w a l) (hn : l.length ≤ 9223372036854775807) (hs : ∀ y ∈ l, y.size ≤ 9223372036854775807) :
    Calls Tryd.prog 40 #[.slice a l.length cap] w (AllEnd w l) := by
  obtain ⟨i0, hi0, hz0, hz1, hz2⟩ := info_parts info_byte
  have HL := Lib.hid hl
  have HS := Lib.hid hs
  clear hl hs
  go_enter Tryd.func40, Tryd.ntmps40
  go_wp2_with fail
  go_loopw [4, 11] (fun ov iv wr => ∃ (k : Nat) (o : List Nat) (oa : Option Addr) (oc : Nat), k ≤ l.length ∧ iv = .int .i64 (k : Int) ∧ ov = .slice oa o.length oc ∧ Frms idf ((l.take k).map strN) o ∧ (∀ c ∈ o, c < 256) ∧ o.length ≤ 65536 ∧ wr.ownsRow w.heap.size 5 1 (.slice oa o.length oc) o.length (o.map bV) ∧ Below w.heap.size w wr) (fun _ iv _ => l.length - (intOf iv).toNat)
  case atStart => exact ⟨0, [], none, 0, Nat.zero_le _, rfl, rfl, .nil, by simp, by simp, World.ownsRow_nil _ _ _ _, Below.refl _ _⟩
  case round =>
    obtain ⟨k, o, oa, oc, hk, rfl, rfl, hfr, hlt256, hol, hown, hbx⟩ := hrel
    have HFR := Lib.hid hfr
    have HOLT := Lib.hid hlt256
    have HOWN := Lib.hid hown
    have HBX := Lib.hid hbx
    have hwr := hbx.size
    clear hfr hlt256 hown hbx
    by_cases hlt : k < l.length
    · have kk : (k : Int) < (l.length : Int) := by omega
      have k0 : (0 : Int) ≤ (k : Int) := Int.natCast_nonneg _
      obtain ⟨g, off, rfl, hcell⟩ := str_cell (HL.out.below HBX.out) k hlt
      have hsz := HS.out _ (List.getElem_mem hlt)
      have HFA := Lib.hid fun u => frame_any l[k] u hsz
      have HBAD : Hid (4096 < l[k].size → ¬ AllOk l) := fun h hok => by have := hok.small k hlt; omega
      have HTK : Hid ((l.take (k + 1)).map strN = (l.take k).map strN ++ [strN l[k]]) := by
        show _ = _
        rw [List.take_succ_eq_append_getElem hlt, List.map_append]; rfl
      generalize l[k] = p at *
      go_wp2_with fail
      refine (HFA.out _).mono ?_
      rintro e w1 ⟨⟨hbig, rfl⟩ | ⟨f, hf, hf4, rfl⟩, hb1⟩
      · have B1 := Lib.hid (Below.step HBX.out hb1)
        have HN := Lib.hid (HBAD.out hbig)
        clear hb1 hbig
        go_wp2_with fail
        go_ret2
        exact ⟨.inr ⟨2, by decide, HN.out, rfl⟩, B1.out⟩
      · have B1 := Lib.hid (Below.step HBX.out hb1)
        have HO1 := Lib.hid (own_below' HOWN.out hb1)
        have HNX : Hid (Frms idf ((l.take (k + 1)).map strN) (o ++ strN f)) := by show Frms idf _ _; rw [HTK.out]; exact .snoc HFR.out hf
        have D3 : Hid (o.length + f.size ≤ maxLen) := by show _ ≤ _; unfold maxLen; omega
        have D4 : Hid (o.length + f.size ≤ 140737488355328) := by show _ ≤ _; omega
        have D5 : Hid (w.heap.size ≤ w1.heap.size) := B1.out.size
        clear hb1 hf
        go_wp2_with (at_builtin; refine Lib.wpList_append_own_string _ rfl _ _ 62 9 rfl w.heap.size 5 i0 Tryd.underlying62 Tryd.underlying9 hi0 hz0 hz1 hz2 _ _ _ rfl HO1.out f rfl D3.out D4.out D5.out ?_)
        intro v' w2 hown' hgrow _
        have BW := Lib.hid (below_own B1.out hgrow D5.out HO1.out (Nat.le_refl _))
        obtain ⟨oa2, oc2, rfl⟩ := own_form' hown'
        have hlen : (o ++ strN f).length = o.length + f.size := by rw [List.length_append, strN_length]
        have OW : Hid (w2.ownsRow w.heap.size 5 1 (.slice oa2 (o ++ strN f).length oc2) (o ++ strN f).length ((o ++ strN f).map bV)) := by
          show w2.ownsRow _ _ _ _ _ _
          rw [hlen, List.map_append, ← strCells_bV]
          exact hown'
        have HLN := Lib.hid hlen
        clear hown' hgrow hlen
        by_cases hbig : 65536 < o.length + f.size
        · have f1 : (65536 : Int) < ((o.length + f.size : Nat) : Int) := by omega
          have f2 : (65536 : Int) < (o.length : Int) + (f.size : Int) := by omega
          have HN : Hid (¬ AllOk l) := fun hok => by have := hok.take (k + 1) HNX.out; rw [HLN.out] at this; omega
          clear hbig
          go_wp2_with fail
          go_ret2
          exact ⟨.inr ⟨2, by decide, HN.out, rfl⟩, BW.out⟩
        · have f1 : ¬ (65536 : Int) < ((o.length + f.size : Nat) : Int) := by omega
          have f2 : ¬ (65536 : Int) < (o.length : Int) + (f.size : Int) := by omega
          have H256 : Hid (∀ c ∈ o ++ strN f, c < 256) := fun c hc => by
            rcases List.mem_append.1 hc with h | h
            · exact HOLT.out c h
            · exact strN_lt f c h
          go_wp2_with fail
          go_roundw
          case rel => exact ⟨k + 1, o ++ strN f, oa2, oc2, by omega, by go_num, by rw [HLN.out], HNX.out, H256.out, by rw [HLN.out]; omega, OW.out, BW.out⟩
          case measure => simp [intOf]; omega
    · obtain rfl : k = l.length := by omega
      have m1 : ¬ (l.length : Int) < (l.length : Int) := by omega
      have hcv := run_string_own (P := Tryd.prog) wr 62 5 9 Tryd.underlying62 Tryd.underlying5 Tryd.underlying9 HOLT.out HOWN.out
      have HT : Hid (Frms idf (l.map strN) (strN (strOf o))) := by
        have h := HFR.out
        rw [List.take_length] at h
        show Frms idf _ _
        rw [strN_strOf o HOLT.out]
        exact h
      clear hlt
      go_wp2_with fail
      go_ret2
      exact ⟨.inl ⟨_, HT.out, by rw [strOf_size]; exact hol, rfl⟩, HBX.out⟩
end Go.Proofs.YtmdodcpmbhehdaaDoor
