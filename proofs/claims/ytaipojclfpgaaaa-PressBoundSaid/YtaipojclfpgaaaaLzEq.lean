/- The walk of slices.Equal at tokens. -/
import Derived.Test.YtaipojclfpgaaaaLzW
import Derived.Deep.QuietTactic
import Derived.BigQuiet
import Derived.Laws.StructEq
namespace Go.Proofs.Ytaipojclfpgaaaa
open Go.RowKit Plain
set_option maxRecDepth 100000 in
set_option maxHeartbeats 1000000 in
theorem eqTok_any (a b : Option Addr) (ca cb : Nat) (l m : List Tok) (w : World) (hl : SAt 3 tC w a l) (hm : SAt 3 tC w b m) (nl : l.length ≤ 9223372036854775807) (nm : m.length ≤ 9223372036854775807) :
    Calls Try.prog 39 #[.slice a l.length ca, .slice b m.length cb] w fun e w' => e = .returned (.bool (decide (l = m))) ∧ Below w.heap.size w w' := by
  have HL := Lib.hid hl
  have HM := Lib.hid hm
  clear hl hm
  by_cases hlen : l.length = m.length
  · have f1 : ((l.length : Int) != (m.length : Int)) = false := by simp [hlen]
    have HLEN := Lib.hid hlen
    clear hlen
    go_enter Try.func39, Try.ntmps39
    go_wp2_with fail
    go_loopw [13] (fun iv wr => ∃ i : Nat, i ≤ l.length ∧ iv = .int .i64 (i : Int) ∧ Below w.heap.size w wr ∧ l.take i = m.take i) (fun iv _ => l.length - (intOf iv).toNat)
    case atStart => exact ⟨0, by omega, rfl, Below.refl _ _, by simp⟩
    case round =>
      obtain ⟨i, hi, rfl, hbr, hall⟩ := hrel
      have HBR := Lib.hid hbr
      have HALL := Lib.hid hall
      clear hbr hall
      by_cases hlt : i < l.length
      · have m1 : (i : Int) < (l.length : Int) := by omega
        have hlt2 : i < m.length := by have := HLEN.out; omega
        have m2 : (i : Int) < (m.length : Int) := by omega
        obtain ⟨g, off, rfl, hg, hr⟩ := (HL.out.below HBR.out) i hlt
        obtain ⟨g', off', rfl, hg', hr'⟩ := (HM.out.below HBR.out) i hlt2
        have HST : Hid (l[i] = m[i] → l.take (i + 1) = m.take (i + 1)) := fun h => by rw [List.take_succ_eq_append_getElem hlt, List.take_succ_eq_append_getElem hlt2, HALL.out, h]
        have HNE : Hid (l[i] ≠ m[i] → l ≠ m) := fun h e => h (by subst e; rfl)
        generalize l[i] = t at *
        generalize m[i] = u at *
        obtain ⟨ta, tb, tc⟩ := t
        obtain ⟨ua, ub, uc⟩ := u
        have r0 : wr.cell? ⟨g, off + i * 3, none⟩ = some (.int .u8 (ta : Int)) := hr 0 _ rfl
        have r1 : wr.cell? ⟨g, off + i * 3 + 1, none⟩ = some (.int .i64 tb) := hr 1 _ rfl
        have r2 : wr.cell? ⟨g, off + i * 3 + 2, none⟩ = some (.int .i64 tc) := hr 2 _ rfl
        have s0 : wr.cell? ⟨g', off' + i * 3, none⟩ = some (.int .u8 (ua : Int)) := hr' 0 _ rfl
        have s1 : wr.cell? ⟨g', off' + i * 3 + 1, none⟩ = some (.int .i64 ub) := hr' 1 _ rfl
        have s2 : wr.cell? ⟨g', off' + i * 3 + 2, none⟩ = some (.int .i64 uc) := hr' 2 _ rfl
        clear hr hg hr' hg'
        by_cases e1 : ta = ua
        · subst e1
          by_cases e2 : tb = ub
          · subst e2
            by_cases e3 : tc = uc
            · subst e3
              have HST2 := Lib.hid (HST.out rfl)
              go_wp2_with fail
              go_quiet (fail)
              go_wp2_with fail
              go_roundw
              case rel => exact ⟨i + 1, by omega, by go_num, below_dn HBR.out _, HST2.out⟩
              case measure => simp [intOf]; omega
            · have HD := Lib.hid (HNE.out (fun h => e3 (congrArg (fun x => x.2.2) h)))
              go_wp2_with fail
              go_quiet (fail)
              go_wp2_with fail
              go_ret
              exact ⟨by rw [decide_eq_false HD.out]; rfl, below_dn HBR.out _⟩
          · have HD := Lib.hid (HNE.out (fun h => e2 (congrArg (fun x => x.2.1) h)))
            go_wp2_with fail
            go_quiet (fail)
            go_wp2_with fail
            go_ret
            exact ⟨by rw [decide_eq_false HD.out]; rfl, below_dn HBR.out _⟩
        · have n1 : ¬ ((ta : Int) = (ua : Int)) := by omega
          have HD := Lib.hid (HNE.out (fun h => e1 (congrArg (fun x => x.1) h)))
          go_wp2_with fail
          go_quiet (fail)
          go_wp2_with fail
          go_ret
          exact ⟨by rw [decide_eq_false HD.out]; rfl, below_dn HBR.out _⟩
      · have m1 : ¬ (i : Int) < (l.length : Int) := by omega
        have HE : Hid (l = m) := by
          have h := HALL.out
          have := HLEN.out
          show _ = _
          rwa [List.take_of_length_le (by omega), List.take_of_length_le (by omega)] at h
        go_wp2_with fail
        go_ret
        exact ⟨by rw [decide_eq_true HE.out]; rfl, HBR.out⟩
  · have f1 : ((l.length : Int) != (m.length : Int)) = true := by simp; omega
    have HE : Hid (l ≠ m) := fun h => hlen (by rw [h])
    clear hlen
    go_enter Try.func39, Try.ntmps39
    go_wp2_with fail
    go_ret
    exact ⟨by rw [decide_eq_false HE.out]; rfl, Below.refl _ _⟩
end Go.Proofs.Ytaipojclfpgaaaa
