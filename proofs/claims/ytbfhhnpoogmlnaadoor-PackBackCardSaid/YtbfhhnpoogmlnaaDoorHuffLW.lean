/- The walk of slices.ContainsFunc over ints at Lengths' own test. -/
import Derived.Test.YtbfhhnpoogmlnaaDoorHuffW
namespace Go.Proofs.YtbfhhnpoogmlnaaDoor
open Go.RowKit Plain
set_option linter.unusedVariables false
set_option linter.unusedSimpArgs false
namespace Plain
def wbad (n : Int) : Bool := decide (n < 0 ∨ 1048576 < n)
theorem wbad_true {n : Int} (h : n < 0 ∨ 1048576 < n) : wbad n = true := decide_eq_true h
theorem wbad_false {n : Int} (h : ¬ (n < 0 ∨ 1048576 < n)) : wbad n = false := decide_eq_false h
end Plain
theorem lbad_any (n : Int) (w : World) : Calls Tryd.prog 105 #[.int .i64 n] w fun e w' => e = .returned (.bool (wbad n)) ∧ w' = w := by
  by_cases h1 : n < 0
  · have HR := Lib.hid (wbad_true (Or.inl h1))
    go_enter Tryd.func105, Tryd.ntmps105
    go_wp2
    go_ret
    exact ⟨by rw [HR.out]; rfl, rfl⟩
  · by_cases h2 : 1048576 < n
    · have HR := Lib.hid (wbad_true (Or.inr h2))
      go_enter Tryd.func105, Tryd.ntmps105
      go_wp2
      go_ret
      exact ⟨by rw [HR.out]; rfl, rfl⟩
    · have HR := Lib.hid (wbad_false (n := n) (by omega))
      go_enter Tryd.func105, Tryd.ntmps105
      go_wp2
      go_ret
      exact ⟨by rw [HR.out]; rfl, rfl⟩
set_option maxRecDepth 100000 in
theorem indexIntL_any (p : Int → Bool) (hp : ∀ n wx, Calls Tryd.prog 105 #[.int .i64 n] wx fun e w' => e = .returned (.bool (p n)) ∧ w' = wx) (a : Option Addr) (cap : Nat) (l : List Int) (w : World) (h : SAt 1 iC w a l) (hl : l.length ≤ 9223372036854775807) :
    Calls Tryd.prog 151 #[.slice a l.length cap, .func (Fn.func 105) #[] #[]] w (Idx p l w) := by
  have HP := Lib.hid hp
  have HS := Lib.hid h
  clear hp h
  go_enter Tryd.func151, Tryd.ntmps151
  go_wp2_with fail
  go_loopw [8] (fun iv wr => ∃ i : Nat, i ≤ l.length ∧ iv = .int .i64 (i : Int) ∧ Below w.heap.size w wr ∧ ∀ x ∈ l.take i, p x = false) (fun iv _ => l.length - (intOf iv).toNat)
  case atStart => exact ⟨0, by omega, rfl, Below.refl _ _, by simp⟩
  case round =>
    obtain ⟨i, hi, rfl, hbr, hall⟩ := hrel
    have HBR := Lib.hid hbr
    have HALL := Lib.hid hall
    clear hbr hall
    by_cases hlt : i < l.length
    · have m1 : (i : Int) < (l.length : Int) := by omega
      obtain ⟨g, off, rfl, hg, hr⟩ := (HS.out.below HBR.out).int i hlt
      have HMEM : Hid (l[i] ∈ l) := List.getElem_mem hlt
      have HST : Hid (p l[i] = false → ∀ x ∈ l.take (i + 1), p x = false) := fun h x hx => by
        rw [List.take_succ_eq_append_getElem hlt] at hx
        rcases List.mem_append.1 hx with hx | hx
        · exact HALL.out x hx
        · simp only [List.mem_singleton] at hx; rw [hx]; exact h
      generalize l[i] = t at *
      have HPT := Lib.hid fun wx => HP.out t wx
      clear hg
      cases hq : p t with
      | true =>
        rw [hq] at HPT
        have HQ := Lib.hid hq
        clear hq
        go_wp2_with fail
        refine (HPT.out _).mono ?_
        rintro e w' ⟨rfl, rfl⟩
        go_wp2_with fail
        go_ret
        exact ⟨(i : Int), rfl, HBR.out, by omega, by omega, .inr ⟨by omega, t, HMEM.out, HQ.out⟩⟩
      | false =>
        rw [hq] at HPT
        have HQ := Lib.hid (HST.out hq)
        clear hq
        go_wp2_with fail
        refine (HPT.out _).mono ?_
        rintro e w' ⟨rfl, rfl⟩
        go_wp2_with fail
        go_roundw
        case rel => exact ⟨i + 1, by omega, by go_num, HBR.out, HQ.out⟩
        case measure => simp [intOf]; omega
    · have m1 : ¬ (i : Int) < (l.length : Int) := by omega
      have HE : Hid (∀ x ∈ l, p x = false) := by
        have h := HALL.out
        rwa [List.take_of_length_le (by omega)] at h
      go_wp2_with fail
      go_ret
      exact ⟨-1, rfl, HBR.out, by omega, by omega, .inl ⟨rfl, HE.out⟩⟩
theorem containsIntL_any (p : Int → Bool) (hp : ∀ n wx, Calls Tryd.prog 105 #[.int .i64 n] wx fun e w' => e = .returned (.bool (p n)) ∧ w' = wx) (a : Option Addr) (cap : Nat) (l : List Int) (w : World) (h : SAt 1 iC w a l) (hl : l.length ≤ 9223372036854775807) :
    Calls Tryd.prog 104 #[.slice a l.length cap, .func (Fn.func 105) #[] #[]] w fun e w' => e = .returned (.bool (l.any p)) ∧ Below w.heap.size w w' := by
  have HI := Lib.hid (indexIntL_any p hp a cap l w h hl)
  clear hp h
  go_enter Tryd.func104, Tryd.ntmps104
  go_wp2_with fail
  refine HI.out.mono ?_
  rintro e w' ⟨r, rfl, hb, h1, h2, hr⟩
  rcases hr with ⟨rfl, hr⟩ | ⟨h0, x, hx, hr⟩
  · have HR : Hid (l.any p = false) := by show _ = _; rw [List.any_eq_false]; intro x hx; simp [hr x hx]
    clear hr
    go_wp2_with fail
    go_ret
    exact ⟨by rw [HR.out]; rfl, hb⟩
  · have HR : Hid (l.any p = true) := List.any_eq_true.2 ⟨x, hx, hr⟩
    clear hr
    go_wp2_with fail
    go_ret
    exact ⟨by rw [HR.out]; rfl, hb⟩
end Go.Proofs.YtbfhhnpoogmlnaaDoor
