/- lumkeep.CivilText, walked (printed by gen_civiltext.py). -/
import Derived.Test.YtplhnlcheamfbaaFmtCivilTextW
namespace Go.Proofs.YtplhnlcheamfbaaFmt
open Go.RowKit Go.Kit Plain Go.Extern.Stop Go.Stop Go.Extern
def TxC (F : Interp) (n : Int) (s : ByteArray) (c : Int) : Prop := ∀ W : World, F.told.answers W.tape →
  Calls Tryf.prog 4 #[.int .i64 n] W fun e w' => Below W.heap.size W w' ∧ e = .returned (.tuple #[.string s, .int .i64 c])
theorem txc_in {F : Interp} {n : Int} (h : inR n) : TxC F n (dB n) 0 := fun W hF => text_is F n W hF h
theorem txc_out {F : Interp} {n : Int} (h : ¬ inR n) : TxC F n ⟨#[]⟩ 1 := fun W _ => text_not n W h
def RdC (s : ByteArray) (P : Int → Int → Prop) : Prop := ∀ W : World,
  Calls Tryf.prog 5 #[.string s] W fun e w' => Below W.heap.size W w' ∧ ∃ m c, P m c ∧ e = .returned (.tuple #[.int .i64 m, .int .i64 c])
theorem rdc_in {n : Int} (h : inR n) : RdC (dB n) fun m c => m = n ∧ c = 0 := fun W => (read_dB n W h).mono (by rintro e w' ⟨hb, rfl⟩; exact ⟨hb, n, 0, ⟨rfl, rfl⟩, rfl⟩)
theorem rdc_bad {s : ByteArray} (hs : s.size ≤ 9223372036854775807) (h : ¬ RdGood (strN s)) : RdC s fun m c => m = 0 ∧ c ≠ 0 := fun W => (read_bad s W hs h).mono (by rintro e w' ⟨hb, c, hc, rfl⟩; exact ⟨hb, 0, c, ⟨rfl, by omega⟩, rfl⟩)
set_option maxRecDepth 100000 in
set_option maxHeartbeats 4000000 in
theorem civ_walk000 (F : Interp) (n k m : Int) (s A B : ByteArray) (w : World) (hl : Op.bytesLess A.toList B.toList = decide (n < k))
    (HF : Hid (F.told.answers w.tape)) (HA : Hid (TxC F n A 0)) (HB : Hid (TxC F k B 0)) (HZ : Hid (TxC F 0 ⟨#[49, 57, 55, 48, 45, 48, 49, 45, 48, 49]⟩ 0))
    (HR : Hid (RdC A fun m' c => m' = n ∧ c = 0)) (HS : Hid (RdC s fun m' c => m' = m ∧ c = 0)) (HM : Hid (TxC F m s 0)) :
    Calls Tryf.prog 3 #[.int .i64 n, .int .i64 k, .string s] w fun e w' => Below w.heap.size w w' ∧ e = .returned (.bool true) := by
  go_enter Tryf.func3, Tryf.ntmps3
  go_wp2_with fail
  refine (HA.out _ HF.out).mono ?_
  rintro e w1 ⟨hb1, rfl⟩
  have HF1 := Lib.hid (told_keep HF.out hb1)
  have HB1 := Lib.hid (hb1)
  clear hb1
  go_wp2_with fail
  refine (HB.out _ HF1.out).mono ?_
  rintro e w2 ⟨hb2, rfl⟩
  have HF2 := Lib.hid (told_keep HF1.out hb2)
  have HB2 := Lib.hid (HB1.out.trans (hb2.mono HB1.out.size))
  clear hb2
  go_wp2_with fail
  refine (HZ.out _ HF2.out).mono ?_
  rintro e w3 ⟨hb3, rfl⟩
  have HF3 := Lib.hid (told_keep HF2.out hb3)
  have HB3 := Lib.hid (HB2.out.trans (hb3.mono HB2.out.size))
  clear hb3
  go_wp2_with fail
  refine (HR.out _).mono ?_
  rintro e w4 ⟨hb4, m4, c4, ⟨rfl, rfl⟩, rfl⟩
  have HF4 := Lib.hid (told_keep HF3.out hb4)
  have HB4 := Lib.hid (HB3.out.trans (hb4.mono HB3.out.size))
  clear hb4
  go_wp2_with fail
  refine (HS.out _).mono ?_
  rintro e w5 ⟨hb5, m5, c5, ⟨rfl, rfl⟩, rfl⟩
  have HF5 := Lib.hid (told_keep HF4.out hb5)
  have HB5 := Lib.hid (HB4.out.trans (hb5.mono HB4.out.size))
  clear hb5
  go_wp2_with fail
  refine (HM.out _ HF5.out).mono ?_
  rintro e w6 ⟨hb6, rfl⟩
  have HF6 := Lib.hid (told_keep HF5.out hb6)
  have HB6 := Lib.hid (HB5.out.trans (hb6.mono HB5.out.size))
  clear hb6
  go_wp2_with fail
  go_ret
  exact ⟨HB6.out, rfl⟩
set_option maxRecDepth 100000 in
set_option maxHeartbeats 4000000 in
theorem civ_walk001 (F : Interp) (n k : Int) (s A B : ByteArray) (w : World) (hl : Op.bytesLess A.toList B.toList = decide (n < k))
    (HF : Hid (F.told.answers w.tape)) (HA : Hid (TxC F n A 0)) (HB : Hid (TxC F k B 0)) (HZ : Hid (TxC F 0 ⟨#[49, 57, 55, 48, 45, 48, 49, 45, 48, 49]⟩ 0))
    (HR : Hid (RdC A fun m' c => m' = n ∧ c = 0)) (HS : Hid (RdC s fun m' c => m' = 0 ∧ c ≠ 0)) :
    Calls Tryf.prog 3 #[.int .i64 n, .int .i64 k, .string s] w fun e w' => Below w.heap.size w w' ∧ e = .returned (.bool true) := by
  go_enter Tryf.func3, Tryf.ntmps3
  go_wp2_with fail
  refine (HA.out _ HF.out).mono ?_
  rintro e w1 ⟨hb1, rfl⟩
  have HF1 := Lib.hid (told_keep HF.out hb1)
  have HB1 := Lib.hid (hb1)
  clear hb1
  go_wp2_with fail
  refine (HB.out _ HF1.out).mono ?_
  rintro e w2 ⟨hb2, rfl⟩
  have HF2 := Lib.hid (told_keep HF1.out hb2)
  have HB2 := Lib.hid (HB1.out.trans (hb2.mono HB1.out.size))
  clear hb2
  go_wp2_with fail
  refine (HZ.out _ HF2.out).mono ?_
  rintro e w3 ⟨hb3, rfl⟩
  have HF3 := Lib.hid (told_keep HF2.out hb3)
  have HB3 := Lib.hid (HB2.out.trans (hb3.mono HB2.out.size))
  clear hb3
  go_wp2_with fail
  refine (HR.out _).mono ?_
  rintro e w4 ⟨hb4, m4, c4, ⟨rfl, rfl⟩, rfl⟩
  have HF4 := Lib.hid (told_keep HF3.out hb4)
  have HB4 := Lib.hid (HB3.out.trans (hb4.mono HB3.out.size))
  clear hb4
  go_wp2_with fail
  refine (HS.out _).mono ?_
  rintro e w5 ⟨hb5, m5, c5, ⟨rfl, hc5⟩, rfl⟩
  have HF5 := Lib.hid (told_keep HF4.out hb5)
  have HB5 := Lib.hid (HB4.out.trans (hb5.mono HB4.out.size))
  clear hb5
  have z5 : (c5 != 0) = true := by simpa using hc5
  go_wp2_with fail
  go_ret
  exact ⟨HB5.out, rfl⟩
set_option maxRecDepth 100000 in
set_option maxHeartbeats 4000000 in
theorem civ_walk010 (F : Interp) (n k m : Int) (s A B : ByteArray) (w : World)
    (HF : Hid (F.told.answers w.tape)) (HA : Hid (TxC F n A 0)) (HB : Hid (TxC F k B 1)) (HZ : Hid (TxC F 0 ⟨#[49, 57, 55, 48, 45, 48, 49, 45, 48, 49]⟩ 0))
    (HR : Hid (RdC A fun m' c => m' = n ∧ c = 0)) (HS : Hid (RdC s fun m' c => m' = m ∧ c = 0)) (HM : Hid (TxC F m s 0)) :
    Calls Tryf.prog 3 #[.int .i64 n, .int .i64 k, .string s] w fun e w' => Below w.heap.size w w' ∧ e = .returned (.bool true) := by
  go_enter Tryf.func3, Tryf.ntmps3
  go_wp2_with fail
  refine (HA.out _ HF.out).mono ?_
  rintro e w1 ⟨hb1, rfl⟩
  have HF1 := Lib.hid (told_keep HF.out hb1)
  have HB1 := Lib.hid (hb1)
  clear hb1
  go_wp2_with fail
  refine (HB.out _ HF1.out).mono ?_
  rintro e w2 ⟨hb2, rfl⟩
  have HF2 := Lib.hid (told_keep HF1.out hb2)
  have HB2 := Lib.hid (HB1.out.trans (hb2.mono HB1.out.size))
  clear hb2
  go_wp2_with fail
  refine (HZ.out _ HF2.out).mono ?_
  rintro e w3 ⟨hb3, rfl⟩
  have HF3 := Lib.hid (told_keep HF2.out hb3)
  have HB3 := Lib.hid (HB2.out.trans (hb3.mono HB2.out.size))
  clear hb3
  go_wp2_with fail
  refine (HR.out _).mono ?_
  rintro e w4 ⟨hb4, m4, c4, ⟨rfl, rfl⟩, rfl⟩
  have HF4 := Lib.hid (told_keep HF3.out hb4)
  have HB4 := Lib.hid (HB3.out.trans (hb4.mono HB3.out.size))
  clear hb4
  go_wp2_with fail
  refine (HS.out _).mono ?_
  rintro e w5 ⟨hb5, m5, c5, ⟨rfl, rfl⟩, rfl⟩
  have HF5 := Lib.hid (told_keep HF4.out hb5)
  have HB5 := Lib.hid (HB4.out.trans (hb5.mono HB4.out.size))
  clear hb5
  go_wp2_with fail
  refine (HM.out _ HF5.out).mono ?_
  rintro e w6 ⟨hb6, rfl⟩
  have HF6 := Lib.hid (told_keep HF5.out hb6)
  have HB6 := Lib.hid (HB5.out.trans (hb6.mono HB5.out.size))
  clear hb6
  go_wp2_with fail
  go_ret
  exact ⟨HB6.out, rfl⟩
set_option maxRecDepth 100000 in
set_option maxHeartbeats 4000000 in
theorem civ_walk011 (F : Interp) (n k : Int) (s A B : ByteArray) (w : World)
    (HF : Hid (F.told.answers w.tape)) (HA : Hid (TxC F n A 0)) (HB : Hid (TxC F k B 1)) (HZ : Hid (TxC F 0 ⟨#[49, 57, 55, 48, 45, 48, 49, 45, 48, 49]⟩ 0))
    (HR : Hid (RdC A fun m' c => m' = n ∧ c = 0)) (HS : Hid (RdC s fun m' c => m' = 0 ∧ c ≠ 0)) :
    Calls Tryf.prog 3 #[.int .i64 n, .int .i64 k, .string s] w fun e w' => Below w.heap.size w w' ∧ e = .returned (.bool true) := by
  go_enter Tryf.func3, Tryf.ntmps3
  go_wp2_with fail
  refine (HA.out _ HF.out).mono ?_
  rintro e w1 ⟨hb1, rfl⟩
  have HF1 := Lib.hid (told_keep HF.out hb1)
  have HB1 := Lib.hid (hb1)
  clear hb1
  go_wp2_with fail
  refine (HB.out _ HF1.out).mono ?_
  rintro e w2 ⟨hb2, rfl⟩
  have HF2 := Lib.hid (told_keep HF1.out hb2)
  have HB2 := Lib.hid (HB1.out.trans (hb2.mono HB1.out.size))
  clear hb2
  go_wp2_with fail
  refine (HZ.out _ HF2.out).mono ?_
  rintro e w3 ⟨hb3, rfl⟩
  have HF3 := Lib.hid (told_keep HF2.out hb3)
  have HB3 := Lib.hid (HB2.out.trans (hb3.mono HB2.out.size))
  clear hb3
  go_wp2_with fail
  refine (HR.out _).mono ?_
  rintro e w4 ⟨hb4, m4, c4, ⟨rfl, rfl⟩, rfl⟩
  have HF4 := Lib.hid (told_keep HF3.out hb4)
  have HB4 := Lib.hid (HB3.out.trans (hb4.mono HB3.out.size))
  clear hb4
  go_wp2_with fail
  refine (HS.out _).mono ?_
  rintro e w5 ⟨hb5, m5, c5, ⟨rfl, hc5⟩, rfl⟩
  have HF5 := Lib.hid (told_keep HF4.out hb5)
  have HB5 := Lib.hid (HB4.out.trans (hb5.mono HB4.out.size))
  clear hb5
  have z5 : (c5 != 0) = true := by simpa using hc5
  go_wp2_with fail
  go_ret
  exact ⟨HB5.out, rfl⟩
set_option maxRecDepth 100000 in
set_option maxHeartbeats 4000000 in
theorem civ_walk100 (F : Interp) (n k m : Int) (s A B : ByteArray) (w : World)
    (HF : Hid (F.told.answers w.tape)) (HA : Hid (TxC F n A 1)) (HB : Hid (TxC F k B 0)) (HZ : Hid (TxC F 0 ⟨#[49, 57, 55, 48, 45, 48, 49, 45, 48, 49]⟩ 0))
    (HR : Hid (RdC A fun m' c => m' = 0 ∧ c ≠ 0)) (HS : Hid (RdC s fun m' c => m' = m ∧ c = 0)) (HM : Hid (TxC F m s 0)) :
    Calls Tryf.prog 3 #[.int .i64 n, .int .i64 k, .string s] w fun e w' => Below w.heap.size w w' ∧ e = .returned (.bool true) := by
  go_enter Tryf.func3, Tryf.ntmps3
  go_wp2_with fail
  refine (HA.out _ HF.out).mono ?_
  rintro e w1 ⟨hb1, rfl⟩
  have HF1 := Lib.hid (told_keep HF.out hb1)
  have HB1 := Lib.hid (hb1)
  clear hb1
  go_wp2_with fail
  refine (HB.out _ HF1.out).mono ?_
  rintro e w2 ⟨hb2, rfl⟩
  have HF2 := Lib.hid (told_keep HF1.out hb2)
  have HB2 := Lib.hid (HB1.out.trans (hb2.mono HB1.out.size))
  clear hb2
  go_wp2_with fail
  refine (HZ.out _ HF2.out).mono ?_
  rintro e w3 ⟨hb3, rfl⟩
  have HF3 := Lib.hid (told_keep HF2.out hb3)
  have HB3 := Lib.hid (HB2.out.trans (hb3.mono HB2.out.size))
  clear hb3
  go_wp2_with fail
  refine (HR.out _).mono ?_
  rintro e w4 ⟨hb4, m4, c4, ⟨rfl, hc4⟩, rfl⟩
  have HF4 := Lib.hid (told_keep HF3.out hb4)
  have HB4 := Lib.hid (HB3.out.trans (hb4.mono HB3.out.size))
  clear hb4
  have z4 : (c4 != 0) = true := by simpa using hc4
  go_wp2_with fail
  refine (HS.out _).mono ?_
  rintro e w5 ⟨hb5, m5, c5, ⟨rfl, rfl⟩, rfl⟩
  have HF5 := Lib.hid (told_keep HF4.out hb5)
  have HB5 := Lib.hid (HB4.out.trans (hb5.mono HB4.out.size))
  clear hb5
  go_wp2_with fail
  refine (HM.out _ HF5.out).mono ?_
  rintro e w6 ⟨hb6, rfl⟩
  have HF6 := Lib.hid (told_keep HF5.out hb6)
  have HB6 := Lib.hid (HB5.out.trans (hb6.mono HB5.out.size))
  clear hb6
  go_wp2_with fail
  go_ret
  exact ⟨HB6.out, rfl⟩
set_option maxRecDepth 100000 in
set_option maxHeartbeats 4000000 in
theorem civ_walk101 (F : Interp) (n k : Int) (s A B : ByteArray) (w : World)
    (HF : Hid (F.told.answers w.tape)) (HA : Hid (TxC F n A 1)) (HB : Hid (TxC F k B 0)) (HZ : Hid (TxC F 0 ⟨#[49, 57, 55, 48, 45, 48, 49, 45, 48, 49]⟩ 0))
    (HR : Hid (RdC A fun m' c => m' = 0 ∧ c ≠ 0)) (HS : Hid (RdC s fun m' c => m' = 0 ∧ c ≠ 0)) :
    Calls Tryf.prog 3 #[.int .i64 n, .int .i64 k, .string s] w fun e w' => Below w.heap.size w w' ∧ e = .returned (.bool true) := by
  go_enter Tryf.func3, Tryf.ntmps3
  go_wp2_with fail
  refine (HA.out _ HF.out).mono ?_
  rintro e w1 ⟨hb1, rfl⟩
  have HF1 := Lib.hid (told_keep HF.out hb1)
  have HB1 := Lib.hid (hb1)
  clear hb1
  go_wp2_with fail
  refine (HB.out _ HF1.out).mono ?_
  rintro e w2 ⟨hb2, rfl⟩
  have HF2 := Lib.hid (told_keep HF1.out hb2)
  have HB2 := Lib.hid (HB1.out.trans (hb2.mono HB1.out.size))
  clear hb2
  go_wp2_with fail
  refine (HZ.out _ HF2.out).mono ?_
  rintro e w3 ⟨hb3, rfl⟩
  have HF3 := Lib.hid (told_keep HF2.out hb3)
  have HB3 := Lib.hid (HB2.out.trans (hb3.mono HB2.out.size))
  clear hb3
  go_wp2_with fail
  refine (HR.out _).mono ?_
  rintro e w4 ⟨hb4, m4, c4, ⟨rfl, hc4⟩, rfl⟩
  have HF4 := Lib.hid (told_keep HF3.out hb4)
  have HB4 := Lib.hid (HB3.out.trans (hb4.mono HB3.out.size))
  clear hb4
  have z4 : (c4 != 0) = true := by simpa using hc4
  go_wp2_with fail
  refine (HS.out _).mono ?_
  rintro e w5 ⟨hb5, m5, c5, ⟨rfl, hc5⟩, rfl⟩
  have HF5 := Lib.hid (told_keep HF4.out hb5)
  have HB5 := Lib.hid (HB4.out.trans (hb5.mono HB4.out.size))
  clear hb5
  have z5 : (c5 != 0) = true := by simpa using hc5
  go_wp2_with fail
  go_ret
  exact ⟨HB5.out, rfl⟩
set_option maxRecDepth 100000 in
set_option maxHeartbeats 4000000 in
theorem civ_walk110 (F : Interp) (n k m : Int) (s A B : ByteArray) (w : World)
    (HF : Hid (F.told.answers w.tape)) (HA : Hid (TxC F n A 1)) (HB : Hid (TxC F k B 1)) (HZ : Hid (TxC F 0 ⟨#[49, 57, 55, 48, 45, 48, 49, 45, 48, 49]⟩ 0))
    (HR : Hid (RdC A fun m' c => m' = 0 ∧ c ≠ 0)) (HS : Hid (RdC s fun m' c => m' = m ∧ c = 0)) (HM : Hid (TxC F m s 0)) :
    Calls Tryf.prog 3 #[.int .i64 n, .int .i64 k, .string s] w fun e w' => Below w.heap.size w w' ∧ e = .returned (.bool true) := by
  go_enter Tryf.func3, Tryf.ntmps3
  go_wp2_with fail
  refine (HA.out _ HF.out).mono ?_
  rintro e w1 ⟨hb1, rfl⟩
  have HF1 := Lib.hid (told_keep HF.out hb1)
  have HB1 := Lib.hid (hb1)
  clear hb1
  go_wp2_with fail
  refine (HB.out _ HF1.out).mono ?_
  rintro e w2 ⟨hb2, rfl⟩
  have HF2 := Lib.hid (told_keep HF1.out hb2)
  have HB2 := Lib.hid (HB1.out.trans (hb2.mono HB1.out.size))
  clear hb2
  go_wp2_with fail
  refine (HZ.out _ HF2.out).mono ?_
  rintro e w3 ⟨hb3, rfl⟩
  have HF3 := Lib.hid (told_keep HF2.out hb3)
  have HB3 := Lib.hid (HB2.out.trans (hb3.mono HB2.out.size))
  clear hb3
  go_wp2_with fail
  refine (HR.out _).mono ?_
  rintro e w4 ⟨hb4, m4, c4, ⟨rfl, hc4⟩, rfl⟩
  have HF4 := Lib.hid (told_keep HF3.out hb4)
  have HB4 := Lib.hid (HB3.out.trans (hb4.mono HB3.out.size))
  clear hb4
  have z4 : (c4 != 0) = true := by simpa using hc4
  go_wp2_with fail
  refine (HS.out _).mono ?_
  rintro e w5 ⟨hb5, m5, c5, ⟨rfl, rfl⟩, rfl⟩
  have HF5 := Lib.hid (told_keep HF4.out hb5)
  have HB5 := Lib.hid (HB4.out.trans (hb5.mono HB4.out.size))
  clear hb5
  go_wp2_with fail
  refine (HM.out _ HF5.out).mono ?_
  rintro e w6 ⟨hb6, rfl⟩
  have HF6 := Lib.hid (told_keep HF5.out hb6)
  have HB6 := Lib.hid (HB5.out.trans (hb6.mono HB5.out.size))
  clear hb6
  go_wp2_with fail
  go_ret
  exact ⟨HB6.out, rfl⟩
set_option maxRecDepth 100000 in
set_option maxHeartbeats 4000000 in
theorem civ_walk111 (F : Interp) (n k : Int) (s A B : ByteArray) (w : World)
    (HF : Hid (F.told.answers w.tape)) (HA : Hid (TxC F n A 1)) (HB : Hid (TxC F k B 1)) (HZ : Hid (TxC F 0 ⟨#[49, 57, 55, 48, 45, 48, 49, 45, 48, 49]⟩ 0))
    (HR : Hid (RdC A fun m' c => m' = 0 ∧ c ≠ 0)) (HS : Hid (RdC s fun m' c => m' = 0 ∧ c ≠ 0)) :
    Calls Tryf.prog 3 #[.int .i64 n, .int .i64 k, .string s] w fun e w' => Below w.heap.size w w' ∧ e = .returned (.bool true) := by
  go_enter Tryf.func3, Tryf.ntmps3
  go_wp2_with fail
  refine (HA.out _ HF.out).mono ?_
  rintro e w1 ⟨hb1, rfl⟩
  have HF1 := Lib.hid (told_keep HF.out hb1)
  have HB1 := Lib.hid (hb1)
  clear hb1
  go_wp2_with fail
  refine (HB.out _ HF1.out).mono ?_
  rintro e w2 ⟨hb2, rfl⟩
  have HF2 := Lib.hid (told_keep HF1.out hb2)
  have HB2 := Lib.hid (HB1.out.trans (hb2.mono HB1.out.size))
  clear hb2
  go_wp2_with fail
  refine (HZ.out _ HF2.out).mono ?_
  rintro e w3 ⟨hb3, rfl⟩
  have HF3 := Lib.hid (told_keep HF2.out hb3)
  have HB3 := Lib.hid (HB2.out.trans (hb3.mono HB2.out.size))
  clear hb3
  go_wp2_with fail
  refine (HR.out _).mono ?_
  rintro e w4 ⟨hb4, m4, c4, ⟨rfl, hc4⟩, rfl⟩
  have HF4 := Lib.hid (told_keep HF3.out hb4)
  have HB4 := Lib.hid (HB3.out.trans (hb4.mono HB3.out.size))
  clear hb4
  have z4 : (c4 != 0) = true := by simpa using hc4
  go_wp2_with fail
  refine (HS.out _).mono ?_
  rintro e w5 ⟨hb5, m5, c5, ⟨rfl, hc5⟩, rfl⟩
  have HF5 := Lib.hid (told_keep HF4.out hb5)
  have HB5 := Lib.hid (HB4.out.trans (hb5.mono HB4.out.size))
  clear hb5
  have z5 : (c5 != 0) = true := by simpa using hc5
  go_wp2_with fail
  go_ret
  exact ⟨HB5.out, rfl⟩
end Go.Proofs.YtplhnlcheamfbaaFmt
