/- The walks of journal.Frame and journal.All. -/
import Derived.Test.YtpfmfigommmjiaaDoorNumW
import Derived.Test.YtpfmfigommmjiaaDoorJournalPlain
import Derived.Test.YtpfmfigommmjiaaDoorMixApartW
import Derived.Test.YtpfmfigommmjiaaDoorStrCalls
import Derived.Lib.AppendStr
namespace Go.Proofs.YtpfmfigommmjiaaDoor
open Go.RowKit Plain
/-- the digest of a list of bytes -/
def idf (l : List Nat) : List Nat := be8 (hsum l)
theorem idf_length (l : List Nat) : (idf l).length = 8 := rfl
theorem idf_lt (l : List Nat) : ∀ c ∈ idf l, c < 256 := be8_lt _
theorem idf_eight (l : List Nat) : ∃ d0 d1 d2 d3 d4 d5 d6 d7, idf l = [d0, d1, d2, d3, d4, d5, d6, d7] := ⟨_, _, _, _, _, _, _, _, rfl⟩
def FrEnd (w0 : World) (s : ByteArray) (e : Ending) (w : World) : Prop :=
  ((4096 < s.size ∧ e = .returned (.tuple #[.string ⟨#[]⟩, .int .i64 2])) ∨ (∃ f : ByteArray, Frm idf (strN s) (strN f) ∧ f.size ≤ 4200 ∧ e = .returned (.tuple #[.string f, .int .i64 0]))) ∧ Below w0.heap.size w0 w
set_option maxRecDepth 100000 in
set_option maxHeartbeats 1000000 in
theorem frame_any (s : ByteArray) (w : World) (hs : s.size ≤ 9223372036854775807) : Calls Tryd.prog 19 #[.string s] w (FrEnd w s) := by
  by_cases h0 : 4096 < s.size
  · have f0 : (4096 : Int) < (s.size : Int) := by omega
    go_enter Tryd.func19, Tryd.ntmps19
    go_wp2_with fail
    go_ret2
    exact ⟨.inl ⟨h0, rfl⟩, Below.refl _ _⟩
  · have f0 : ¬ (4096 : Int) < (s.size : Int) := by omega
    have HP := Lib.hid fun u => put_any s.size (by omega) u
    have e1 : IntKind.u64.wrap (s.size : Int) = (s.size : Int) := by
      show (s.size : Int) % 18446744073709551616 = _
      omega
    go_enter Tryd.func19, Tryd.ntmps19
    go_wp2_with fail
    refine (HP.out _).mono ?_
    rintro e w1 ⟨p, hp, rfl, hb1⟩
    have hp9 : p.size ≤ 9 := by have := hp.length.2; rwa [strN_length] at this
    have h63 : p.size + s.size ≤ 9223372036854775807 := by omega
    have hz : (p ++ s).size = p.size + s.size := by simp
    have HID := Lib.hid fun u => id_bC (p ++ s) u (by omega)
    have B1 := Lib.hid hb1
    have HPN := Lib.hid hp
    obtain ⟨d0, d1, d2, d3, d4, d5, d6, d7, hd⟩ := idf_eight (strN (p ++ s))
    have hdlt : ∀ c ∈ [d0, d1, d2, d3, d4, d5, d6, d7], c < 256 := by rw [← hd]; exact idf_lt _
    have HDL := Lib.hid hdlt
    have HD := Lib.hid hd
    have hbc : bC (be8 (hsum (strN (p ++ s)))) = #[.int .u8 (d0 : Int), .int .u8 (d1 : Int), .int .u8 (d2 : Int), .int .u8 (d3 : Int), .int .u8 (d4 : Int), .int .u8 (d5 : Int), .int .u8 (d6 : Int), .int .u8 (d7 : Int)] := by
      show bC (idf _) = _
      rw [hd]
      rfl
    rw [hbc] at HID
    clear hb1 hp hd hdlt hbc
    go_wp2_with fail
    refine (HID.out _).mono ?_
    rintro e w2 ⟨rfl, hb2⟩
    have B2 := Lib.hid (Below.step B1.out hb2)
    clear hb2
    have hcv := Lib.run_convert_whole (P := Tryd.prog) (w2.alloc (.cells #[.int .u8 (d0 : Int), .int .u8 (d1 : Int), .int .u8 (d2 : Int), .int .u8 (d3 : Int), .int .u8 (d4 : Int), .int .u8 (d5 : Int), .int .u8 (d6 : Int), .int .u8 (d7 : Int)] 43)) 53 5 9 Tryd.underlying53 Tryd.underlying5 Tryd.underlying9 w2.heap.size 0 (strOf [d0, d1, d2, d3, d4, d5, d6, d7]) (BRow.bytes (BRow.new w2 43 [d0, d1, d2, d3, d4, d5, d6, d7]) _ (strN_strOf _ HDL.out)) 8
    rw [strOf_size, show ([d0, d1, d2, d3, d4, d5, d6, d7] : List Nat).length = 8 from rfl] at hcv
    have h64 : (p ++ s).size + (strOf [d0, d1, d2, d3, d4, d5, d6, d7]).size ≤ 9223372036854775807 := by
      rw [hz, strOf_size]
      show _ + 8 ≤ _
      omega
    have HF : Hid (Frm idf (strN s) (strN (p ++ s ++ strOf [d0, d1, d2, d3, d4, d5, d6, d7]))) := by
      have ha : ∀ x y : ByteArray, strN (x ++ y) = strN x ++ strN y := fun x y => by simp [strN]
      refine ⟨by rw [strN_length]; omega, strN p, by rw [strN_length]; exact HPN.out, ?_⟩
      rw [ha, strN_strOf _ HDL.out, ← HD.out, ha]
    have HZ : Hid ((p ++ s ++ strOf [d0, d1, d2, d3, d4, d5, d6, d7]).size ≤ 4200) := by
      have hz2 : (p ++ s ++ strOf [d0, d1, d2, d3, d4, d5, d6, d7]).size = p.size + s.size + 8 := by
        have : (p ++ s ++ strOf [d0, d1, d2, d3, d4, d5, d6, d7]).size = (p ++ s).size + (strOf [d0, d1, d2, d3, d4, d5, d6, d7]).size := by simp
        rw [this, hz, strOf_size]; rfl
      show _ ≤ _
      omega
    have BW := Lib.hid (B2.out.alloc B2.out.size (.cells #[.int .u8 (d0 : Int), .int .u8 (d1 : Int), .int .u8 (d2 : Int), .int .u8 (d3 : Int), .int .u8 (d4 : Int), .int .u8 (d5 : Int), .int .u8 (d6 : Int), .int .u8 (d7 : Int)] 43))
    clear hz
    go_wp2_with fail
    go_ret2
    exact ⟨.inr ⟨_, HF.out, HZ.out, rfl⟩, BW.out⟩
theorem strCells_bV (s : ByteArray) : Lib.strCells s = (strN s).map bV := by
  simp [Lib.strCells, strN, bV]
/-- all frames together are short enough -/
def AllOk (l : List ByteArray) : Prop := ∃ t, Frms idf (l.map strN) t ∧ t.length ≤ 65536
theorem AllOk.take {l : List ByteArray} (h : AllOk l) (k : Nat) {o : List Nat} (ho : Frms idf ((l.take k).map strN) o) : o.length ≤ 65536 := by
  obtain ⟨t, ht, hl⟩ := h
  rw [← List.take_append_drop k l, List.map_append] at ht
  obtain ⟨u, v, hu, _, rfl⟩ := ht.cutAt
  rw [ho.unique hu]
  rw [List.length_append] at hl
  omega
theorem AllOk.small {l : List ByteArray} (h : AllOk l) (k : Nat) (hk : k < l.length) : l[k].size ≤ 4096 := by
  obtain ⟨t, ht, hl⟩ := h
  rw [← List.take_append_drop k l, List.drop_eq_getElem_cons hk, List.map_append, List.map_cons] at ht
  obtain ⟨u, v, _, hv, _⟩ := ht.cutAt
  obtain ⟨f, u2, hf, _, _⟩ := hv.split
  have := hf.1
  rwa [strN_length] at this
def AllEnd (w0 : World) (l : List ByteArray) (e : Ending) (w : World) : Prop :=
  ((∃ t : ByteArray, Frms idf (l.map strN) (strN t) ∧ t.size ≤ 65536 ∧ e = .returned (.tuple #[.string t, .int .i64 0])) ∨ (∃ c : Nat, c ≠ 0 ∧ ¬ AllOk l ∧ e = .returned (.tuple #[.string ⟨#[]⟩, .int .i64 (c : Int)]))) ∧ Below w0.heap.size w0 w
end Go.Proofs.YtpfmfigommmjiaaDoor
