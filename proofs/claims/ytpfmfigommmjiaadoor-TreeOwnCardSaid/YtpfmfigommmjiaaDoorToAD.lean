/- Joined: NamesW, NamesW2, NamesLaid. -/
import Derived.Test.YtpfmfigommmjiaaDoorToAC
import Derived.Test.YtpfmfigommmjiaaDoorShelf
import Derived.Test.YtpfmfigommmjiaaDoorToAA
import Derived.Lib.LaidU8T
import Derived.Laws.RangeAny
import Derived.Laws.RangeString
import Derived.WalkArith
import Derived.Test.YtpfmfigommmjiaaDoorRows
namespace Go.Proofs.YtpfmfigommmjiaaDoor
open Go.RowKit Plain Go.Proofs
def Tabs (w : World) : Prop := Lib.Utf8Tabs (Tryd.lays196_ren.g 3) (Tryd.lays196_ren.g 4) w
theorem Tabs.below {w w' : World} (h : Tabs w) (hb : Below w.heap.size w w') : Tabs w' := by
  refine ⟨fun c hc => ?_, fun i hi => ?_⟩
  · have := h.1 c hc
    exact (hb.cell (World.block_lt_of_cell? _ _ this)).trans this
  · obtain ⟨h1, h2⟩ := h.2 i hi
    exact ⟨(hb.cell (World.block_lt_of_cell? _ _ h1)).trans h1, (hb.cell (World.block_lt_of_cell? _ _ h2)).trans h2⟩
theorem scanN_end (s : ByteArray) (fuel pos n : Nat) (h : ¬ pos < s.size) : scanN s fuel pos n = some n := by
  cases fuel with
  | zero => rfl
  | succ f => rw [scanN, if_neg h]
theorem below_iter (w : World) (s : ByteArray) (pos : Nat) : Below w.heap.size w (w.iter s pos) := (Below.refl _ _).alloc (Nat.le_refl _) _
theorem dotB_list : dotB.toList = [46] := by rw [Lib.toList_data]; rfl
theorem dot2B_list : dot2B.toList = [46, 46] := by rw [Lib.toList_data]; rfl
theorem empty_strB {s : ByteArray} (h : s.size = 0) : s.toList.isEmpty = true := by
  rw [Lib.toList_data]
  have hl : s.data.toList.length = s.size := by rw [Array.length_toList]; rfl
  rw [List.isEmpty_iff]
  exact List.eq_nil_of_length_eq_zero (by omega)
theorem full_strB {s : ByteArray} (h : s.size ≠ 0) : s.toList.isEmpty = false := by
  rw [Lib.toList_data]
  have hl : s.data.toList.length = s.size := by rw [Array.length_toList]; rfl
  cases hd : s.data.toList with
  | nil => rw [hd] at hl; simp at hl; omega
  | cons a l => rfl
theorem other_strB {a b : ByteArray} (h : a ≠ b) : (a.toList == b.toList) = false := by
  rw [beq_eq_false_iff_ne]
  intro e
  rw [Lib.toList_data, Lib.toList_data] at e
  exact h (strN_inj (by unfold strN; rw [e]))
theorem same_strB {a b : ByteArray} (h : a = b) : (a.toList == b.toList) = true := by subst h; simp
set_option maxRecDepth 100000 in
theorem ncheck_any (s : ByteArray) (w : World) (hs : s.size ≤ 4611686018427387904) (hT : Tabs w) :
    Calls Tryd.prog 40 #[.string s] w fun e w' => e = .returned (.int .i64 (chkB s)) ∧ Below w.heap.size w w' := by
  have HV : Hid (Calls Tryd.prog 55 #[.string s] w fun e w' => e = .returned (.bool (Lib.validD s.data.toList)) ∧ Below w.heap.size w w') := Tryd.utf8_ValidString s w (by omega) hT
  by_cases h0 : s.size = 0
  · have f0 := empty_strB h0
    have HE : Hid (chkB s = 8) := by show _ = _; unfold chkB; simp [h0]
    clear h0 hT HV
    go_enter Tryd.func40, Tryd.ntmps40
    go_wp2_with fail
    go_ret
    exact ⟨by rw [HE.out]; rfl, Below.refl _ _⟩
  by_cases h1 : s = dotB
  · have f0 := full_strB h0
    have f1 : (s.toList == [46]) = true := dotB_list ▸ same_strB (b := dotB) h1
    have HE : Hid (chkB s = 8) := by show _ = _; unfold chkB; simp [h1]
    clear h0 h1 hT HV
    go_enter Tryd.func40, Tryd.ntmps40
    go_wp2_with fail
    go_ret
    exact ⟨by rw [HE.out]; rfl, Below.refl _ _⟩
  by_cases h2 : s = dot2B
  · have f0 := full_strB h0
    have f1 : (s.toList == [46]) = false := dotB_list ▸ other_strB (b := dotB) h1
    have f2 : (s.toList == [46, 46]) = true := dot2B_list ▸ same_strB (b := dot2B) h2
    have HE : Hid (chkB s = 8) := by show _ = _; unfold chkB; simp [h2]
    clear h0 h1 h2 hT HV
    go_enter Tryd.func40, Tryd.ntmps40
    go_wp2_with fail
    go_ret
    exact ⟨by rw [HE.out]; rfl, Below.refl _ _⟩
  have HE : Hid (chkB s = if Lib.validD s.data.toList = false then 8 else match scanN s s.size 0 0 with
      | none => 8
      | some n => if 24 < n then 2 else 0) := by show _ = _; unfold chkB; simp only [h0, h1, h2, false_or]; rfl
  have f0 := full_strB h0
  have f1 : (s.toList == [46]) = false := dotB_list ▸ other_strB (b := dotB) h1
  have f2 : (s.toList == [46, 46]) = false := dot2B_list ▸ other_strB (b := dot2B) h2
  clear h0 h1 h2 hT
  go_enter Tryd.func40, Tryd.ntmps40
  go_wp2_with fail
  refine HV.out.mono ?_
  rintro e w1 ⟨rfl, hb1⟩
  have HB1 := Lib.hid hb1
  clear hb1 HV f0 f1 f2
  cases hv : Lib.validD s.data.toList
  · have HE8 : Hid (chkB s = 8) := by have := HE.out; rw [hv, if_pos rfl] at this; exact this
    clear HE hv
    go_wp2_with fail
    go_ret
    exact ⟨by rw [HE8.out]; rfl, HB1.out⟩
  · have HE2 : Hid (chkB s = match scanN s s.size 0 0 with
      | none => 8
      | some n => if 24 < n then 2 else 0) := by have := HE.out; rw [hv, if_neg (by decide)] at this; exact this
    clear HE hv
    go_wp2_with fail
    go_loopw [3] (fun n w' => ∃ (pos fuel acc : Nat), w' = w1.iter s pos ∧ n = .int .i64 (acc : Int) ∧ Hid (scanN s fuel pos acc = scanN s s.size 0 0) ∧ s.size ≤ pos + fuel ∧ acc ≤ pos ∧ pos ≤ s.size + 4) (fun _ w' => s.size + 4 - w'.iterPos w1.heap.size)
    case atStart => exact ⟨0, s.size, 0, rfl, rfl, Lib.hid rfl, by omega, Nat.le_refl _, by omega⟩
    case round =>
      obtain ⟨pos, fuel, acc, rfl, rfl, hc, hb, ha, hpb⟩ := hrel
      by_cases hp : pos < s.size
      · have hnx : ∀ ty, (Instr.next (.pointer (some ⟨w1.heap.size, 0, none⟩)) true ty).run Tryd.prog (w1.iter s pos) = _ := fun ty => run_next_any w1 s pos ty hp
        have hwd := Lib.decode_width_pos s pos hp
        have hd := Lib.decode_at s pos
        obtain ⟨_, hw4, _⟩ := decodeN_parts (s.size - pos) (s.get! pos).toNat (s.get! (pos + 1)).toNat (s.get! (pos + 2)).toNat (s.get! (pos + 3)).toNat
        rw [← hd] at hw4
        clear hd
        cases fuel with
        | zero => omega
        | succ fuel =>
          have HST : Hid ((if (Utf8.decode s pos).1 = 47 ∨ (Utf8.decode s pos).1 < 32 ∨ (Utf8.decode s pos).1 = 127 then none else scanN s fuel (pos + (Utf8.decode s pos).2) (acc + 1)) = scanN s s.size 0 0) := by
            have := hc.out
            rw [scanN, if_pos hp] at this
            exact this
          clear hc
          generalize (Utf8.decode s pos).1 = r at *
          generalize (Utf8.decode s pos).2 = wd at *
          have i1 : IntKind.i64.wrap ((acc : Int) + 1) = (acc : Int) + 1 := wraps_i64 _ (by omega) (by omega)
          by_cases hr : r = 47 ∨ r < 32 ∨ r = 127
          · have HN : Hid (chkB s = 8) := by
              have := HST.out
              rw [if_pos hr] at this
              show _ = _
              rw [HE2.out, ← this]
            clear HST
            by_cases r1 : r = 47
            · have g1 : ((r : Int) == 47) = true := by simp [r1]
              clear hr r1
              go_wp2_with fail
              go_ret
              exact ⟨by rw [HN.out]; rfl, Below.step HB1.out (below_iter _ _ _)⟩
            · have g1 : ((r : Int) == 47) = false := by simpa using (by omega : (r : Int) ≠ 47)
              by_cases r2 : r < 32
              · have g2 : (r : Int) < 32 := by omega
                clear hr r1 r2
                go_wp2_with fail
                go_ret
                exact ⟨by rw [HN.out]; rfl, Below.step HB1.out (below_iter _ _ _)⟩
              · have g2 : ¬ (r : Int) < 32 := by omega
                have g3 : ((r : Int) == 127) = true := by
                  have : r = 127 := by omega
                  simp [this]
                clear hr r1 r2
                go_wp2_with fail
                go_ret
                exact ⟨by rw [HN.out]; rfl, Below.step HB1.out (below_iter _ _ _)⟩
          · have HN : Hid (scanN s fuel (pos + wd) (acc + 1) = scanN s s.size 0 0) := by
              have := HST.out
              rwa [if_neg hr] at this
            have g1 : ((r : Int) == 47) = false := by simpa using (by omega : (r : Int) ≠ 47)
            have g2 : ¬ (r : Int) < 32 := by omega
            have g3 : ((r : Int) == 127) = false := by simpa using (by omega : (r : Int) ≠ 127)
            clear hr HST
            go_wp2_with fail
            go_roundw
            case rel => exact ⟨pos + wd, fuel, acc + 1, rfl, by go_num, HN, by omega, by omega, by omega⟩
            case measure =>
              simp
              omega
      · have hnx : ∀ ty, (Instr.next (.pointer (some ⟨w1.heap.size, 0, none⟩)) true ty).run Tryd.prog (w1.iter s pos) = _ := fun ty => run_next_end w1 s pos ty hp
        have HN : Hid (chkB s = if 24 < acc then 2 else 0) := by
          have := hc.out
          rw [scanN_end s fuel pos acc hp] at this
          show _ = _
          rw [HE2.out, ← this]
        clear hc
        by_cases h24 : 24 < acc
        · have g1 : (24 : Int) < (acc : Int) := by omega
          have HN2 : Hid (chkB s = 2) := by have := HN.out; rwa [if_pos h24] at this
          go_wp2_with fail
          go_ret
          exact ⟨by rw [HN2.out]; rfl, Below.step HB1.out (below_iter _ _ _)⟩
        · have g1 : ¬ (24 : Int) < (acc : Int) := by omega
          have HN2 : Hid (chkB s = 0) := by have := HN.out; rwa [if_neg h24] at this
          go_wp2_with fail
          go_ret
          exact ⟨by rw [HN2.out]; rfl, Below.step HB1.out (below_iter _ _ _)⟩
end Go.Proofs.YtpfmfigommmjiaaDoor
namespace Go.Proofs.YtpfmfigommmjiaaDoor
open Go.RowKit Plain
abbrev bT (s : ByteArray) : T := s.data.toList
def MaxL (m : Int) (w : World) : Prop := w.cell? ⟨4, 0, none⟩ = some (.int .i64 m)
theorem MaxL.below {m : Int} {w w' : World} (h : MaxL m w) (hb : Below w.heap.size w w') : MaxL m w' := (hb.cell (World.block_lt_of_cell? _ _ h)).trans h
end Go.Proofs.YtpfmfigommmjiaaDoor
namespace Go.Proofs.YtpfmfigommmjiaaDoor
open Go.RowKit Plain Go.Proofs
end Go.Proofs.YtpfmfigommmjiaaDoor
