/- Joined: NamesW, NamesW2, NamesLaid. -/
import Derived.Test.YtbfoonfbhebhfaaGreatDoorKGnB
import Derived.Test.YtbfoonfbhebhfaaGreatDoorShelf
import Derived.Lib.LaidU8T
import Derived.Laws.RangeAny
import Derived.Laws.RangeString
import Derived.WalkArith
import Derived.Test.YtbfoonfbhebhfaaGreatDoorRows
namespace Go.Proofs.YtbfoonfbhebhfaaGreatDoor
open Go.RowKit Plain Go.Proofs
def Tabs (w : World) : Prop := Lib.Utf8Tabs (Tryz.lays196_ren.g 3) (Tryz.lays196_ren.g 4) w
theorem Tabs.below {w w' : World} (h : Tabs w) (hb : Below w.heap.size w w') : Tabs w' := by
 refine ⟨fun c hc => ?_, fun i hi => ?_⟩
 ·
  have := h.1 c hc
  exact (hb.cell (World.block_lt_of_cell? _ _ this)).trans this
 ·
  obtain ⟨h1, h2⟩ := h.2 i hi
  exact ⟨(hb.cell (World.block_lt_of_cell? _ _ h1)).trans h1, (hb.cell (World.block_lt_of_cell? _ _ h2)).trans h2⟩
theorem scanN_end (s : ByteArray) (fuel pos n : Nat) (h : ¬ pos < s.size) : scanN s fuel pos n = some n := by
 cases fuel with
 | zero => rfl
 | succ f => rw [scanN, if_neg h]
theorem below_iter (w : World) (s : ByteArray) (pos : Nat) : Below w.heap.size w (w.iter s pos) := (Below.refl _ _).alloc (Nat.le_refl _) _
theorem dotB_list : dotB.toList = [46] := by rw [Lib.toList_data]; rfl
theorem dot2B_list : dot2B.toList = [46, 46] := by rw [Lib.toList_data]; rfl
theorem empty_strB {s : ByteArray} (h : s.size = 0) : s.toList.isEmpty = true := by
 rw [Lib.toList_data]
 have hl : s.data.toList.length = s.size := by rw [Array.length_toList]; rfl
 rw [List.isEmpty_iff]
 exact List.eq_nil_of_length_eq_zero (by omega)
theorem full_strB {s : ByteArray} (h : s.size ≠ 0) : s.toList.isEmpty = false := by
 rw [Lib.toList_data]
 have hl : s.data.toList.length = s.size := by rw [Array.length_toList]; rfl
 cases hd : s.data.toList with
 | nil => rw [hd] at hl; simp at hl; omega
 | cons a l => rfl
theorem other_strB {a b : ByteArray} (h : a ≠ b) : (a.toList == b.toList) = false := by
 rw [beq_eq_false_iff_ne]
 intro e
 rw [Lib.toList_data, Lib.toList_data] at e
 exact h (strN_inj (by unfold strN; rw [e]))
theorem same_strB {a b : ByteArray} (h : a = b) : (a.toList == b.toList) = true := by subst h; simp
set_option maxRecDepth 100000 in
theorem ncheck_any (s : ByteArray) (w : World) (hs : s.size ≤ 4611686018427387904) (hT : Tabs w) :
  Calls Tryz.prog 93 #[.string s] w fun e w' => e = .returned (.int .i64 (chkB s)) ∧ Below w.heap.size w w' := by
 have HV : Hid (Calls Tryz.prog 115 #[.string s] w fun e w' => e = .returned (.bool (Lib.validD s.data.toList)) ∧ Below w.heap.size w w') := Tryz.utf8_ValidString s w (by omega) hT
 by_cases h0 : s.size = 0
 ·
  have f0 := empty_strB h0
  have HE : Hid (chkB s = 8) := by show _ = _; unfold chkB; simp [h0]
  clear h0 hT HV
  go_enter Tryz.func93, Tryz.ntmps93
  go_wp2_with fail
  go_ret
  exact ⟨by rw [HE.out]; rfl, Below.refl _ _⟩
 by_cases h1 : s = dotB
 ·
  have f0 := full_strB h0
  have f1 : (s.toList == [46]) = true := dotB_list ▸ same_strB (b := dotB) h1
  have HE : Hid (chkB s = 8) := by show _ = _; unfold chkB; simp [h1]
  clear h0 h1 hT HV
  go_enter Tryz.func93, Tryz.ntmps93
  go_wp2_with fail
  go_ret
  exact ⟨by rw [HE.out]; rfl, Below.refl _ _⟩
 by_cases h2 : s = dot2B
 ·
  have f0 := full_strB h0
  have f1 : (s.toList == [46]) = false := dotB_list ▸ other_strB (b := dotB) h1
  have f2 : (s.toList == [46, 46]) = true := dot2B_list ▸ same_strB (b := dot2B) h2
  have HE : Hid (chkB s = 8) := by show _ = _; unfold chkB; simp [h2]
  clear h0 h1 h2 hT HV
  go_enter Tryz.func93, Tryz.ntmps93
  go_wp2_with fail
  go_ret
  exact ⟨by rw [HE.out]; rfl, Below.refl _ _⟩
 have HE : Hid (chkB s = if Lib.validD s.data.toList = false then 8 else match scanN s s.size 0 0 with
   | none => 8
   | some n => if 24 < n then 2 else 0) := by show _ = _; unfold chkB; simp only [h0, h1, h2, false_or]; rfl
 have f0 := full_strB h0
 have f1 : (s.toList == [46]) = false := dotB_list ▸ other_strB (b := dotB) h1
 have f2 : (s.toList == [46, 46]) = false := dot2B_list ▸ other_strB (b := dot2B) h2
 clear h0 h1 h2 hT
 go_enter Tryz.func93, Tryz.ntmps93
 go_wp2_with fail
 refine HV.out.mono ?_
 rintro e w1 ⟨rfl, hb1⟩
 have HB1 := Lib.hid hb1
 clear hb1 HV f0 f1 f2
 cases hv : Lib.validD s.data.toList
 ·
  have HE8 : Hid (chkB s = 8) := by have := HE.out; rw [hv, if_pos rfl] at this; exact this
  clear HE hv
  go_wp2_with fail
  go_ret
  exact ⟨by rw [HE8.out]; rfl, HB1.out⟩
 ·
  have HE2 : Hid (chkB s = match scanN s s.size 0 0 with
   | none => 8
   | some n => if 24 < n then 2 else 0) := by have := HE.out; rw [hv, if_neg (by decide)] at this; exact this
  clear HE hv
  go_wp2_with fail
  go_loopw [3] (fun n w' => ∃ (pos fuel acc : Nat), w' = w1.iter s pos ∧ n = .int .i64 (acc : Int) ∧ Hid (scanN s fuel pos acc = scanN s s.size 0 0) ∧ s.size ≤ pos + fuel ∧ acc ≤ pos ∧ pos ≤ s.size + 4) (fun _ w' => s.size + 4 - w'.iterPos w1.heap.size)
  case atStart => exact ⟨0, s.size, 0, rfl, rfl, Lib.hid rfl, by omega, Nat.le_refl _, by omega⟩
  case round =>
   obtain ⟨pos, fuel, acc, rfl, rfl, hc, hb, ha, hpb⟩ := hrel
   by_cases hp : pos < s.size
   ·
    have hnx : ∀ ty, (Instr.next (.pointer (some ⟨w1.heap.size, 0, none⟩)) true ty).run Tryz.prog (w1.iter s pos) = _ := fun ty => run_next_any w1 s pos ty hp
    have hwd := Lib.decode_width_pos s pos hp
    have hd := Lib.decode_at s pos
    obtain ⟨_, hw4, _⟩ := decodeN_parts (s.size - pos) (s.get! pos).toNat (s.get! (pos + 1)).toNat (s.get! (pos + 2)).toNat (s.get! (pos + 3)).toNat
    rw [← hd] at hw4
    clear hd
    cases fuel with
    | zero => omega
    | succ fuel =>
     have HST : Hid ((if (Utf8.decode s pos).1 = 47 ∨ (Utf8.decode s pos).1 < 32 ∨ (Utf8.decode s pos).1 = 127 then none else scanN s fuel (pos + (Utf8.decode s pos).2) (acc + 1)) = scanN s s.size 0 0) := by
      have := hc.out
      rw [scanN, if_pos hp] at this
      exact this
     clear hc
     generalize (Utf8.decode s pos).1 = r at *
     generalize (Utf8.decode s pos).2 = wd at *
     have i1 : IntKind.i64.wrap ((acc : Int) + 1) = (acc : Int) + 1 := wraps_i64 _ (by omega) (by omega)
     by_cases hr : r = 47 ∨ r < 32 ∨ r = 127
     ·
      have HN : Hid (chkB s = 8) := by
       have := HST.out
       rw [if_pos hr] at this
       show _ = _
       rw [HE2.out, ← this]
      clear HST
      by_cases r1 : r = 47
      ·
       have g1 : ((r : Int) == 47) = true := by simp [r1]
       clear hr r1
       go_wp2_with fail
       go_ret
       exact ⟨by rw [HN.out]; rfl, Below.step HB1.out (below_iter _ _ _)⟩
      ·
       have g1 : ((r : Int) == 47) = false := by simpa using (by omega : (r : Int) ≠ 47)
       by_cases r2 : r < 32
       ·
        have g2 : (r : Int) < 32 := by omega
        clear hr r1 r2
        go_wp2_with fail
        go_ret
        exact ⟨by rw [HN.out]; rfl, Below.step HB1.out (below_iter _ _ _)⟩
       ·
        have g2 : ¬ (r : Int) < 32 := by omega
        have g3 : ((r : Int) == 127) = true := by
         have : r = 127 := by omega
         simp [this]
        clear hr r1 r2
        go_wp2_with fail
        go_ret
        exact ⟨by rw [HN.out]; rfl, Below.step HB1.out (below_iter _ _ _)⟩
     ·
      have HN : Hid (scanN s fuel (pos + wd) (acc + 1) = scanN s s.size 0 0) := by
       have := HST.out
       rwa [if_neg hr] at this
      have g1 : ((r : Int) == 47) = false := by simpa using (by omega : (r : Int) ≠ 47)
      have g2 : ¬ (r : Int) < 32 := by omega
      have g3 : ((r : Int) == 127) = false := by simpa using (by omega : (r : Int) ≠ 127)
      clear hr HST
      go_wp2_with fail
      go_roundw
      case rel => exact ⟨pos + wd, fuel, acc + 1, rfl, by go_num, HN, by omega, by omega, by omega⟩
      case measure =>
       simp
       omega
   ·
    have hnx : ∀ ty, (Instr.next (.pointer (some ⟨w1.heap.size, 0, none⟩)) true ty).run Tryz.prog (w1.iter s pos) = _ := fun ty => run_next_end w1 s pos ty hp
    have HN : Hid (chkB s = if 24 < acc then 2 else 0) := by
     have := hc.out
     rw [scanN_end s fuel pos acc hp] at this
     show _ = _
     rw [HE2.out, ← this]
    clear hc
    by_cases h24 : 24 < acc
    ·
     have g1 : (24 : Int) < (acc : Int) := by omega
     have HN2 : Hid (chkB s = 2) := by have := HN.out; rwa [if_pos h24] at this
     go_wp2_with fail
     go_ret
     exact ⟨by rw [HN2.out]; rfl, Below.step HB1.out (below_iter _ _ _)⟩
    ·
     have g1 : ¬ (24 : Int) < (acc : Int) := by omega
     have HN2 : Hid (chkB s = 0) := by have := HN.out; rwa [if_neg h24] at this
     go_wp2_with fail
     go_ret
     exact ⟨by rw [HN2.out]; rfl, Below.step HB1.out (below_iter _ _ _)⟩
end Go.Proofs.YtbfoonfbhebhfaaGreatDoor
namespace Go.Proofs.YtbfoonfbhebhfaaGreatDoor
open Go.RowKit Plain
abbrev bT (s : ByteArray) : T := s.data.toList
def tl (l : List ByteArray) : List T := l.map bT
theorem bT_inj {a b : ByteArray} (h : bT a = bT b) : a = b := strN_inj (by unfold strN; unfold bT at h; rw [h])
theorem bT_mk (l : T) : bT ⟨l.toArray⟩ = l := by simp [bT]
theorem bT_length (s : ByteArray) : (bT s).length = s.size := by show s.data.toList.length = _; rw [Array.length_toList]; rfl
theorem tl_length (l : List ByteArray) : (tl l).length = l.length := by simp [tl]
def MaxL (m : Int) (w : World) : Prop := w.cell? ⟨1, 0, none⟩ = some (.int .i64 m)
theorem MaxL.below {m : Int} {w w' : World} (h : MaxL m w) (hb : Below w.heap.size w w') : MaxL m w' := (hb.cell (World.block_lt_of_cell? _ _ h)).trans h
set_option maxRecDepth 100000 in
theorem checkAll_any (a : Option Addr) (cap : Nat) (l : List ByteArray) (w : World) (h : SAt 1 sC w a l) (hl : l.length ≤ 9223372036854775807) (hs : ∀ y ∈ l, y.size ≤ 4611686018427387904) (hT : Tabs w) :
  Calls Tryz.prog 59 #[.slice a l.length cap] w fun e w' => e = .returned (.int .i64 (chkAll ck (tl l) 0)) ∧ Below w.heap.size w w' := by
 have HS := Lib.hid h
 have HZ := Lib.hid hs
 have HT := Lib.hid hT
 have HCK := Lib.hid ncheck_any
 clear h hs hT
 go_enter Tryz.func59, Tryz.ntmps59
 go_wp2_with fail
 go_loopw [8] (fun iv wr => ∃ i : Nat, i ≤ l.length ∧ iv = .int .i64 (i : Int) ∧ Hid (Below w.heap.size w wr) ∧ Hid (chkAll ck (tl (l.drop i)) i = chkAll ck (tl l) 0)) (fun iv _ => l.length - (intOf iv).toNat)
 case atStart => exact ⟨0, by omega, rfl, Lib.hid (Below.refl _ _), Lib.hid rfl⟩
 case round =>
  obtain ⟨i, hi, rfl, HBR, HC⟩ := hrel
  by_cases hlt : i < l.length
  ·
   have m1 : (i : Int) < (l.length : Int) := by omega
   obtain ⟨g, off, rfl, hr⟩ := str_cell (HS.out.below HBR.out) i hlt
   have HD : Hid (chkAll ck (bT l[i] :: tl (l.drop (i + 1))) i = chkAll ck (tl l) 0) := by
    have := HC.out
    rw [List.drop_eq_getElem_cons hlt] at this
    exact this
   have HZ1 := Lib.hid (HZ.out _ (List.getElem_mem hlt))
   clear HC
   generalize l[i] = s at *
   by_cases h8 : 8 ≤ i
   ·
    have m2 : (8 : Int) ≤ (i : Int) := by omega
    have HE : Hid (chkAll ck (tl l) 0 = 14) := by
     have := HD.out
     rw [chkAll, if_pos h8] at this
     exact this.symm
    go_wp2_with fail
    go_ret
    exact ⟨by rw [HE.out]; rfl, HBR.out⟩
   ·
    have m2 : ¬ (8 : Int) ≤ (i : Int) := by omega
    have HE : Hid ((if ck (bT s) ≠ 0 then ck (bT s) else chkAll ck (tl (l.drop (i + 1))) (i + 1)) = chkAll ck (tl l) 0) := by
     have := HD.out
     rw [chkAll, if_neg h8] at this
     exact this
    clear HD h8
    go_wp2_with fail
    refine (HCK.out s wr HZ1.out (HT.out.below HBR.out)).mono ?_
    rintro e w2 ⟨rfl, hb2⟩
    have HB2 := Lib.hid (Below.step HBR.out hb2)
    clear hb2
    have HQ : Hid (ck (bT s) = chkB s) := ck_of s
    rw [HQ.out] at HE
    generalize chkB s = c at *
    by_cases hc : c = 0
    ·
     have f1 : (c != 0) = false := by simp [hc]
     have HN : Hid (chkAll ck (tl (l.drop (i + 1))) (i + 1) = chkAll ck (tl l) 0) := by
      have := HE.out
      rwa [if_neg (by simp [hc])] at this
     clear HE hc
     go_wp2_with fail
     go_roundw
     case rel => exact ⟨i + 1, by omega, by go_num, HB2, HN⟩
     case measure => simp [intOf]; omega
    ·
     have f1 : (c != 0) = true := by simpa using hc
     have HN : Hid (chkAll ck (tl l) 0 = c) := by
      have := HE.out
      rw [if_pos hc] at this
      exact this.symm
     clear HE hc
     go_wp2_with fail
     go_ret
     exact ⟨by rw [HN.out]; rfl, HB2.out⟩
  ·
   have m1 : ¬ (i : Int) < (l.length : Int) := by omega
   have HE : Hid (chkAll ck (tl l) 0 = 0) := by
    have := HC.out
    rw [List.drop_eq_nil_of_le (by omega)] at this
    exact this.symm
   go_wp2_with fail
   go_ret
   exact ⟨by rw [HE.out]; rfl, HBR.out⟩
def SplEnd (w0 : World) (s : ByteArray) (e : Ending) (w : World) : Prop := Below w0.heap.size w0 w ∧
 (((splP ck (bT s)).2 = 0 ∧ ∃ a c, ∃ L : List ByteArray, e = .returned (.tuple #[.slice a L.length c, .int .i64 0]) ∧ SAt 1 sC w a L ∧ tl L = (splP ck (bT s)).1 ∧ L.length ≤ c ∧ L.length ≤ 8 ∧ ∀ y ∈ L, y.size ≤ 4294967296) ∨
  ((splP ck (bT s)).2 ≠ 0 ∧ e = .returned (.tuple #[.slice none 0 0, .int .i64 (splP ck (bT s)).2])))
theorem spl_size : ∀ (s : T), ∀ a ∈ spl s, a.length ≤ s.length
 | [], a, h => by simp [spl] at h; subst h; simp
 | c :: l, a, h => by
  by_cases hc : c = 47
  ·
   rw [spl, if_pos hc] at h
   rcases List.mem_cons.1 h with rfl | h
   ·
    simp
   ·
    have := spl_size l a h; simp; omega
  ·
   obtain ⟨b, t, h1, h2⟩ := spl_cons_other hc l
   rw [h2] at h
   rcases List.mem_cons.1 h with rfl | h
   ·
    have := spl_size l b (by rw [h1]; simp); simp; omega
   ·
    have := spl_size l a (by rw [h1]; simp [h]); simp; omega
theorem sat_strs {w : World} {g : Nat} {l : List ByteArray} {t : TypeId} (h : w.heap[g]? = some (.cells (l.map Value.string).toArray t (0, 0))) : SAt 1 sC w (some ⟨g, 0, none⟩) l := by
 intro i hi
 refine ⟨g, 0, rfl, lt_of_block h, fun j u hu => ?_⟩
 have hj : j < 1 := by
  rcases Nat.lt_or_ge j 1 with h | h
  ·
   exact h
  ·
   rw [List.getElem?_eq_none (by rw [sC_length]; exact h)] at hu; cases hu
 obtain rfl : j = 0 := by omega
 rw [cell_of_row _ _ _ _ _ _ h]
 have hu : some (Value.string l[i]) = some u := hu
 rw [← hu]
 simp [List.getElem?_map, List.getElem?_eq_getElem hi]
def LSplEnd (w0 : World) (s : ByteArray) (e : Ending) (w : World) : Prop := Below w0.heap.size w0 w ∧ ∃ g, ∃ L : List ByteArray, e = .returned (.slice (some ⟨g, 0, none⟩) L.length L.length) ∧ SAt 1 sC w (some ⟨g, 0, none⟩) L ∧ tl L = spl (bT s) ∧ (∀ y ∈ L, y.size ≤ s.size) ∧ L.length ≤ s.size + 1
theorem spl_length : ∀ s : T, (spl s).length ≤ s.length + 1
 | [] => by simp [spl]
 | c :: l => by
  by_cases hc : c = 47
  ·
   rw [spl, if_pos hc]; have := spl_length l; simp; omega
  ·
   obtain ⟨b, t, h1, h2⟩ := spl_cons_other hc l
   rw [h2]; have := spl_length l; rw [h1] at this; simp at *; omega
theorem lsplit_any (s : ByteArray) (m : Int) (w : World) (hs : s.size < 4294967281) (hm : MaxL m w) :
  Calls Tryz.prog 58 #[.string s, .string ⟨#[47]⟩] w (LSplEnd w s) := by
 refine (Tryz.strings_Split s slashB m w hs hm (by decide)).mono ?_
 rintro e w' ⟨rfl, rfl⟩
 have hl : (Lib.splitB slashB 0 (Lib.countB s slashB) s).length = Lib.countB s slashB + 1 := Lib.splitB_all slashB (by decide) 0 _ s rfl
 have ht := splitB_spl s
 refine ⟨(Below.refl _ _).alloc (Nat.le_refl _) _, w.heap.size, Lib.splitB slashB 0 (Lib.countB s slashB) s, by rw [hl], sat_strs (heap_alloc_new _ _), ht, ?_, ?_⟩
 ·
  intro y hy
  have h1 : bT y ∈ spl (bT s) := by rw [← ht]; exact List.mem_map.2 ⟨y, hy, rfl⟩
  have := spl_size _ _ h1
  rwa [bT_length, bT_length] at this
 ·
  have := spl_length (bT s)
  rw [← ht, List.length_map, bT_length] at this
  exact this
set_option maxRecDepth 100000 in
theorem split_any (s : ByteArray) (m : Int) (w : World) (hs : s.size < 4294967281) (hm : MaxL m w) (hT : Tabs w) :
  Calls Tryz.prog 21 #[.string s] w (SplEnd w s) := by
 have HCP := Lib.hid (Tryz.strings_CutPrefix s ⟨#[47]⟩ w)
 have HCA := Lib.hid checkAll_any
 have HSL := Lib.hid lsplit_any
 have HM := Lib.hid hm
 have HT := Lib.hid hT
 clear hm hT
 by_cases hp : ∃ rest, bT s = 47 :: rest
 ·
  obtain ⟨rest, hr⟩ := hp
  have h1 : Lib.hasPrefix s.data.toList (⟨#[47]⟩ : ByteArray).data.toList = true := by
   show Lib.hasPrefix (bT s) [47] = true
   rw [hr]; simp [Lib.hasPrefix, List.isPrefixOf]
  have h2 : Lib.trimPrefix s.data.toList (⟨#[47]⟩ : ByteArray).data.toList = rest := by
   unfold Lib.trimPrefix
   rw [h1]
   show (if true = true then (bT s).drop 1 else bT s) = rest
   rw [hr]; rfl
  rw [h1, h2] at HCP
  have HSZ : Hid ((⟨rest.toArray⟩ : ByteArray).size < 4294967281) := by
   have := bT_length s
   rw [hr] at this
   show rest.length < 4294967281
   simp at this; omega
  have HR : Hid (bT ⟨rest.toArray⟩ = rest) := bT_mk rest
  have HSP : Hid (splP ck (bT s) = if rest = [] then ([], 0) else if chkAll ck (spl rest) 0 = 0 then (spl rest, 0) else ([], chkAll ck (spl rest) 0)) := by
   show _ = _; rw [hr]; rfl
  have HRE : Hid (rest = [] ↔ (⟨rest.toArray⟩ : ByteArray).size = 0) := by
   show _ ↔ rest.length = 0
   exact List.length_eq_zero_iff.symm
  clear hr h1 h2
  generalize (⟨rest.toArray⟩ : ByteArray) = r at *
  go_enter Tryz.func21, Tryz.ntmps21
  go_wp2_with fail
  refine HCP.out.mono ?_
  rintro e w1 ⟨rfl, rfl⟩
  by_cases h0 : r.size = 0
  ·
   have f0 := empty_strB h0
   have HE := Lib.hid (HRE.out.2 h0)
   go_wp2_with fail
   go_ret2
   refine ⟨Below.refl _ _, .inl ⟨by rw [HSP.out, if_pos HE.out], none, 0, [], rfl, SAt.nil, by rw [HSP.out, if_pos HE.out]; rfl, by simp, by simp, by simp⟩⟩
  ·
   have f0 := full_strB h0
   have HE := Lib.hid (fun h => h0 (HRE.out.1 h))
   clear h0 HCP
   go_wp2_with fail
   refine (HSL.out r m _ HSZ.out HM.out).mono ?_
   rintro e w2 ⟨hb2, g, L, rfl, hsat, htl, hsz, hln⟩
   have HB2 := Lib.hid hb2
   have HS2 := Lib.hid hsat
   have HTL := Lib.hid htl
   have HLN : Hid (L.length ≤ 9223372036854775807) := by have := HSZ.out; show _ ≤ _; omega
   have HZZ : Hid (∀ y ∈ L, y.size ≤ 4611686018427387904) := fun y hy => by have := hsz y hy; have := HSZ.out; omega
   have HZY : Hid (∀ y ∈ L, y.size ≤ 4294967296) := fun y hy => by have := hsz y hy; have := HSZ.out; omega
   clear hb2 hsat htl hsz hln
   go_wp2_with fail
   refine (HCA.out _ _ L _ HS2.out HLN.out HZZ.out (HT.out.below HB2.out)).mono ?_
   rintro e w3 ⟨rfl, hb3⟩
   have HB3 := Lib.hid (Below.step HB2.out hb3)
   have HS3 := Lib.hid (HS2.out.below hb3)
   have HT2 : Hid (tl L = spl rest) := by show _ = _; rw [HTL.out, HR.out]
   rw [HT2.out]
   have HSQ : Hid (splP ck (bT s) = if chkAll ck (spl rest) 0 = 0 then (spl rest, 0) else ([], chkAll ck (spl rest) 0)) := by
    show _ = _; rw [HSP.out, if_neg HE.out]
   have HL8 : Hid (chkAll ck (spl rest) 0 = 0 → L.length ≤ 8) := by
    intro h
    have := ((chkAll_ok ck _ _).1 h).1
    rw [← HT2.out, tl_length] at this
    rcases this with h | h
    ·
     have : L.length = 0 := by rw [← tl_length, h]; rfl
     omega
    ·
     omega
   clear hb3 HSP
   generalize chkAll ck (spl rest) 0 = c at *
   by_cases hc : c = 0
   ·
    have f1 : (c != 0) = false := by simp [hc]
    have HF : Hid (splP ck (bT s) = (spl rest, 0)) := by have := HSQ.out; rwa [if_pos hc] at this
    have HL := Lib.hid (HL8.out hc)
    clear HSQ HL8 hc
    go_wp2_with fail
    go_ret2
    exact ⟨HB3.out, .inl ⟨by rw [HF.out], _, _, L, rfl, HS3.out, by rw [HF.out, HT2.out], Nat.le_refl _, HL.out, HZY.out⟩⟩
   ·
    have f1 : (c != 0) = true := by simpa using hc
    have HF : Hid (splP ck (bT s) = ([], c)) := by have := HSQ.out; rwa [if_neg hc] at this
    have HC := Lib.hid hc
    clear HSQ HL8 hc
    go_wp2_with fail
    go_ret2
    exact ⟨HB3.out, .inr ⟨by rw [HF.out]; exact HC.out, by rw [HF.out]; rfl⟩⟩
 ·
  have h1 : Lib.hasPrefix s.data.toList (⟨#[47]⟩ : ByteArray).data.toList = false := by
   show Lib.hasPrefix (bT s) [47] = false
   cases hb : bT s with
   | nil => rfl
   | cons c l =>
    have : c ≠ 47 := fun e => hp ⟨l, by rw [hb, e]⟩
    simp [Lib.hasPrefix, List.isPrefixOf]
    exact fun e => this e.symm
  rw [h1] at HCP
  have HF : Hid (splP ck (bT s) = ([], 8)) := by
   show _ = _
   cases hb : bT s with
   | nil => rfl
   | cons c l =>
    have : c ≠ 47 := fun e => hp ⟨l, by rw [hb, e]⟩
    unfold splP
    split
    ·
     rename_i heq; injection heq with e _; exact absurd e this
    ·
     rfl
  clear h1 hp
  go_enter Tryz.func21, Tryz.ntmps21
  go_wp2_with fail
  refine HCP.out.mono ?_
  rintro e w1 ⟨rfl, rfl⟩
  go_wp2_with fail
  go_ret2
  exact ⟨Below.refl _ _, .inr ⟨by rw [HF.out]; decide, by rw [HF.out]; rfl⟩⟩
end Go.Proofs.YtbfoonfbhebhfaaGreatDoor
namespace Go.Proofs.YtbfoonfbhebhfaaGreatDoor
open Go.RowKit Plain Go.Proofs
theorem first_data : Rows.laid_unicode_utf8_first = Lib.firstData := by kernel_rfl
theorem accept_data : Rows.laid_unicode_utf8_acceptRanges = Lib.acceptData := by kernel_rfl
theorem tabs_of {W : World} (hL : laidMet Tryz.prog [("unicode/utf8.acceptRanges", Rows.laid_unicode_utf8_acceptRanges), ("unicode/utf8.first", Rows.laid_unicode_utf8_first)] W) : Tabs W := by
 rw [first_data, accept_data] at hL
 exact utf8Tabs_of_readsT (U8Types.of196 Tryz.lays196) ⟨by kernel_rfl, by kernel_rfl, by kernel_rfl, by kernel_rfl, by kernel_rfl, by kernel_rfl, by kernel_rfl⟩ (Lib.laidMet.reads hL (.tail _ (.head _))) (Lib.laidMet.reads hL (.head _))
theorem maxl_of {W : World} (h : W.ShapedOpen Tryz.prog) : ∃ m, MaxL m W := Tryz.laysM146.s1_3 W h
end Go.Proofs.YtbfoonfbhebhfaaGreatDoor
