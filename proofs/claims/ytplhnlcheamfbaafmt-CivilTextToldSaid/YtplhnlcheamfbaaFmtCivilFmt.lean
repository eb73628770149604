/- fmt.Sprintf at a date's format: the closed facts of the stop, and the text that it gives. -/
import Derived.Test.YtplhnlcheamfbaaFmtCivilRead
import Derived.Stop.CallBack
import Derived.Stop.IfaceNil
import Derived.Stop.Texts
import Derived.Stop.JoinedTold
import Derived.Stop.FmtTextKit
import Derived.Stop.FmtTextWidths
import Derived.WalkKit
import Derived.WalkSpells
namespace Go.Proofs.YtplhnlcheamfbaaFmt
open Go.RowKit Go.Kit Plain Go.Extern.Stop Go.Stop Go.Extern
@[go_sem] theorem callF (args : Array Value) (w : World) : (callFunc 8 args).run Tryf.prog w = ((FmtStop.sprintf #[9, 54] #[9] args).run Tryf.prog w).andThen fun v w' => .ok (.value v) w' :=
  run_callFunc_extern Tryf.func8 (by kernel_rfl) (by kernel_rfl) (by kernel_rfl) (by kernel_rfl) args w
@[go_sem] theorem guardF (name : String) (w : World) : (FmtStop.guard name).run Tryf.prog w = .ok () w := by kernel_rfl
@[go_sem] theorem fmtF : FmtStop.printed? ⟨#[37, 48, 52, 100, 45, 37, 48, 50, 100, 45, 37, 48, 50, 100]⟩ 3 = some [(0, 100, false), (1, 100, false), (2, 100, false)] := by kernel_rfl
@[go_sem] theorem fmtFr (w : World) : (FmtDoors.printed ⟨#[37, 48, 52, 100, 45, 37, 48, 50, 100, 45, 37, 48, 50, 100]⟩ 3).run Tryf.prog w = .ok [(0, 100, false), (1, 100, false), (2, 100, false)] w := by kernel_rfl
def shape3 : List UInt8 := [5, 3, 0, 0, 0, 0, 0, 0, 0, 105, 110, 116]
@[go_sem] theorem op3F (name : String) (x : Int) (w : World) : (FmtStop.operand name false 100 false (.iface 3 (.int .i64 x))).run Tryf.prog w = .ok (shape3, Go.Extern.Stop.digits 8 (x % 2 ^ 64).toNat) w := by kernel_rfl
/-- what fmt is asked -/
def reading (y m d : Int) : List (List UInt8) :=
  [[37, 48, 52, 100, 45, 37, 48, 50, 100, 45, 37, 48, 50, 100], shape3, Go.Extern.Stop.digits 8 (y % 18446744073709551616).toNat, shape3, Go.Extern.Stop.digits 8 (m % 18446744073709551616).toNat, shape3, Go.Extern.Stop.digits 8 (d % 18446744073709551616).toNat]
def tText (y m d : Int) : List UInt8 := FmtText.zeros 4 y ++ ([45] ++ (FmtText.zeros 2 m ++ ([45] ++ FmtText.zeros 2 d)))
theorem parseF : (FmtText.parse [37, 48, 52, 100, 45, 37, 48, 50, 100, 45, 37, 48, 50, 100]).map FmtText.glue =
    some [.verb { widPresent := true, wid := 4, zero := true } 100, .lit [45], .verb { widPresent := true, wid := 2, zero := true } 100, .lit [45], .verb { widPresent := true, wid := 2, zero := true } 100] := by rfl
theorem textF (y m d : Int) (hy : (Lit.int .i64 y).wf = true) (hm : (Lit.int .i64 m).wf = true) (hd : (Lit.int .i64 d).wf = true) : FmtText.text "fmt.Sprintf" (reading y m d) = some (tText y m d) := by
  have h1 := FmtText.operand_int_at (sh := shape3) (k := .i64) rfl rfl y hy
  have h2 := FmtText.operand_int_at (sh := shape3) (k := .i64) rfl rfl m hm
  have h3 := FmtText.operand_int_at (sh := shape3) (k := .i64) rfl rfl d hd
  rw [reading, FmtText.text_sprintf_glued parseF (FmtText.operands_cons h1 (FmtText.operands_cons h2 (FmtText.operands_cons h3 FmtText.operands_nil)))]
  simp [FmtText.render, FmtText.printArg_d_zero _ _ _ hy, FmtText.printArg_d_zero _ _ _ hm, FmtText.printArg_d_zero _ _ _ hd, tText]
theorem dec_lt10 {i : Nat} (h : i < 10) : Lib.decDigits i = [UInt8.ofNat (48 + i)] := Lib.decDigits_one h
theorem dec_step {u : Nat} (h : ¬ u < 10) : Lib.decDigits u = Lib.decDigits (u / 10) ++ [UInt8.ofNat (48 + u % 10)] := by
  rw [Lib.decDigits, dif_neg h]
def natsU (l : List UInt8) : List Nat := l.map UInt8.toNat
theorem toNat48 {i : Nat} (h : i < 10) : (UInt8.ofNat (48 + i)).toNat = 48 + i := by simp; omega
theorem zeros2 {m : Int} (h0 : 0 ≤ m) (h1 : m < 100) : natsU (FmtText.zeros 2 m) = dgs2 m.toNat := by
  obtain ⟨k, rfl⟩ : ∃ k : Nat, m = (k : Int) := ⟨m.toNat, by omega⟩
  have hk : k < 100 := by omega
  rw [FmtText.zeros, if_neg (by omega), Int.toNat_natCast]
  by_cases c : k < 10
  · rw [dec_lt10 c]
    have q : k / 10 = 0 := by omega
    have r : k % 10 = k := by omega
    simp [natsU, dgs2, q, r]
    omega
  · rw [dec_step c, dec_lt10 (i := k / 10) (by omega)]
    simp [natsU, dgs2]
    omega
theorem zeros4 {m : Int} (h0 : 0 ≤ m) (h1 : m < 10000) : natsU (FmtText.zeros 4 m) = dgs4 m.toNat := by
  obtain ⟨k, rfl⟩ : ∃ k : Nat, m = (k : Int) := ⟨m.toNat, by omega⟩
  have hk : k < 10000 := by omega
  rw [FmtText.zeros, if_neg (by omega), Int.toNat_natCast]
  by_cases c : k < 10
  · rw [dec_lt10 c]
    have q0 : k / 1000 = 0 := by omega
    have q1 : k / 100 % 10 = 0 := by omega
    have q2 : k / 10 % 10 = 0 := by omega
    have q3 : k % 10 = k := by omega
    simp [natsU, dgs4, q0, q1, q2, q3, List.replicate]
    omega
  · rw [dec_step c]
    by_cases c2 : k / 10 < 10
    · rw [dec_lt10 c2]
      have q0 : k / 1000 = 0 := by omega
      have q1 : k / 100 % 10 = 0 := by omega
      have q2 : k / 10 % 10 = k / 10 := by omega
      simp [natsU, dgs4, q0, q1, q2, List.replicate]
      omega
    · rw [dec_step c2]
      by_cases c3 : k / 10 / 10 < 10
      · rw [dec_lt10 c3]
        have q0 : k / 1000 = 0 := by omega
        have q1 : k / 100 % 10 = k / 10 / 10 := by omega
        simp [natsU, dgs4, q0, q1]
        omega
      · rw [dec_step c3, dec_lt10 (i := k / 10 / 10 / 10) (by omega)]
        have q0 : k / 1000 = k / 10 / 10 / 10 := by omega
        have q1 : k / 100 % 10 = k / 10 / 10 % 10 := by omega
        simp [natsU, dgs4, q0, q1]
        omega
theorem natsU_append (a b : List UInt8) : natsU (a ++ b) = natsU a ++ natsU b := by simp [natsU]
theorem tText_nats {y m d : Int} (hy0 : 0 ≤ y) (hy : y < 10000) (hm0 : 0 ≤ m) (hm : m < 100) (hd0 : 0 ≤ d) (hd : d < 100) : natsU (tText y m d) = dtext y.toNat m.toNat d.toNat := by
  simp only [tText, natsU_append, zeros4 hy0 hy, zeros2 hm0 hm, zeros2 hd0 hd, dtext]
  rfl
theorem tText_len {y m d : Int} (hy0 : 0 ≤ y) (hy : y < 10000) (hm0 : 0 ≤ m) (hm : m < 100) (hd0 : 0 ≤ d) (hd : d < 100) : (tText y m d).length = 10 := by
  have h := congrArg List.length (tText_nats hy0 hy hm0 hm hd0 hd)
  simpa [natsU, dtext, dgs4, dgs2] using h
theorem textOf_nats (x : Nat) : strN (FmtStop.textOf x) = natsU (FmtStop.textOf x).data.toList := rfl
/-- the day's text -/
def DText (n : Int) (s : ByteArray) : Prop := strN s = dtext (dY n).toNat (dM n).toNat (dD n).toNat
set_option maxRecDepth 100000 in
set_option maxHeartbeats 1000000 in
theorem text_aux (F : Interp) (n Y M D : Int) (w : World) (hF : F.told.answers w.tape) (h0 : -719162 ≤ n) (h1 : n ≤ 2932896)
    (HD : Hid (∀ W, Calls Tryf.prog 7 #[.int .i64 n] W fun e w' => e = .returned (.tuple #[.int .i64 Y, .int .i64 M, .int .i64 D]) ∧ W = w')) :
    Calls Tryf.prog 4 #[.int .i64 n] w fun e w' => e = .returned (.tuple #[.string (FmtStop.textOf (F.told "fmt.Sprintf" (reading Y M D) 0)), .int .i64 0]) ∧
      w' = (w.alloc (.cells #[.iface 3 (.int .i64 Y), .iface 3 (.int .i64 M), .iface 3 (.int .i64 D)] 20)).drew := by
  have hF' := answers_open hF
  go_enter Tryf.func4, Tryf.ntmps4
  go_wp2_with (first | (go_at_call 6; refine (ok_in _ _ (by omega) (by omega)).mono ?_; rintro e w' ⟨rfl, rfl⟩) | (go_at_call 7; refine (HD.out _).mono ?_; rintro e w' ⟨rfl, rfl⟩))
  go_ret2
  exact ⟨rfl, rfl⟩
theorem text_in (F : Interp) (n : Int) (w : World) (hF : F.told.answers w.tape) (h0 : -719162 ≤ n) (h1 : n ≤ 2932896) :
    Calls Tryf.prog 4 #[.int .i64 n] w fun e w' => Below w.heap.size w w' ∧ ∃ s : ByteArray, e = .returned (.tuple #[.string s, .int .i64 0]) ∧ DText n s := by
  have hs := dt_spec n h0 h1
  have HD := Lib.hid (fun W => date_any n W h0 h1)
  have hml := mlen_bd (dY n) (dM n)
  unfold DText
  generalize dY n = Y at *
  generalize dM n = M at *
  generalize dD n = D at *
  obtain ⟨y1, y2, m1, m2, d1, d2, _⟩ := hs
  have hd3 : D < 100 := by omega
  have hwf : ∀ x : Int, 0 ≤ x → x < 10000 → (Lit.int .i64 x).wf = true := by
    intro x hx hx2
    simp [Lit.wf, IntKind.min, IntKind.max, IntKind.signed, IntKind.bits]
    omega
  have ht := told_string F (textF Y M D (hwf _ (by omega) (by omega)) (hwf _ (by omega) (by omega)) (hwf _ (by omega) (by omega))) (by rw [tText_len (by omega) (by omega) (by omega) (by omega) (by omega) hd3]; decide)
  have hlen := tText_nats (y := Y) (m := M) (d := D) (by omega) (by omega) (by omega) (by omega) (by omega) hd3
  refine (text_aux F n Y M D w hF h0 h1 HD).mono ?_
  rintro e w' ⟨rfl, rfl⟩
  refine ⟨((Below.refl _ w).alloc (Nat.le_refl _) _).drew, _, rfl, ?_⟩
  rw [textOf_nats, textOf_list, ht, hlen]
theorem text_out (n : Int) (w : World) (h : n < -719162 ∨ 2932896 < n) :
    Calls Tryf.prog 4 #[.int .i64 n] w fun e w' => e = .returned (.tuple #[.string ⟨#[]⟩, .int .i64 1]) ∧ w = w' := by
  have H := Lib.hid h
  clear h
  go_enter Tryf.func4, Tryf.ntmps4
  go_wp2_with (go_at_call 6; refine (ok_out _ _ H.out).mono ?_; rintro e w' ⟨rfl, rfl⟩)
  go_ret2
  exact ⟨rfl, rfl⟩
end Go.Proofs.YtplhnlcheamfbaaFmt
