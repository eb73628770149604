/- The walks of huff.Kraft and huff.Codes. -/
import Derived.Test.YtbfhhnpoogmlnaaDoorHuffPlain
import Derived.Test.YtbfhhnpoogmlnaaDoorInts
namespace Go.Proofs.YtbfhhnpoogmlnaaDoor
open Go.RowKit Plain
namespace Plain
def bad (n : Int) : Bool := decide (n < 0 ∨ 48 < n)
theorem bad_true {n : Int} (h : n < 0 ∨ 48 < n) : bad n = true := decide_eq_true h
theorem bad_false {n : Int} (h : ¬ (n < 0 ∨ 48 < n)) : bad n = false := decide_eq_false h
end Plain
theorem kbad_any (n : Int) (w : World) : Calls Tryd.prog 153 #[.int .i64 n] w fun e w' => e = .returned (.bool (bad n)) ∧ w' = w := by
  by_cases h1 : n < 0
  · have HR := Lib.hid (bad_true (Or.inl h1))
    go_enter Tryd.func153, Tryd.ntmps153
    go_wp2
    go_ret
    exact ⟨by rw [HR.out]; rfl, rfl⟩
  · by_cases h2 : 48 < n
    · have HR := Lib.hid (bad_true (Or.inr h2))
      go_enter Tryd.func153, Tryd.ntmps153
      go_wp2
      go_ret
      exact ⟨by rw [HR.out]; rfl, rfl⟩
    · have HR := Lib.hid (bad_false (n := n) (by omega))
      go_enter Tryd.func153, Tryd.ntmps153
      go_wp2
      go_ret
      exact ⟨by rw [HR.out]; rfl, rfl⟩
/-- an index at which p holds, or -1 -/
def Idx (p : Int → Bool) (l : List Int) (w : World) (e : Ending) (w' : World) : Prop := ∃ r : Int, e = .returned (.int .i64 r) ∧ Below w.heap.size w w' ∧ -1 ≤ r ∧ r ≤ 9223372036854775807 ∧ ((r = -1 ∧ ∀ x ∈ l, p x = false) ∨ (0 ≤ r ∧ ∃ x ∈ l, p x = true))
set_option maxRecDepth 100000 in
theorem indexInt_any (p : Int → Bool) (hp : ∀ n wx, Calls Tryd.prog 153 #[.int .i64 n] wx fun e w' => e = .returned (.bool (p n)) ∧ w' = wx) (a : Option Addr) (cap : Nat) (l : List Int) (w : World) (h : SAt 1 iC w a l) (hl : l.length ≤ 9223372036854775807) :
    Calls Tryd.prog 151 #[.slice a l.length cap, .func (Fn.func 153) #[] #[]] w (Idx p l w) := by
  have HP := Lib.hid hp
  have HS := Lib.hid h
  clear hp h
  go_enter Tryd.func151, Tryd.ntmps151
  go_wp2_with fail
  go_loopw [8] (fun iv wr => ∃ i : Nat, i ≤ l.length ∧ iv = .int .i64 (i : Int) ∧ Below w.heap.size w wr ∧ ∀ x ∈ l.take i, p x = false) (fun iv _ => l.length - (intOf iv).toNat)
  case atStart => exact ⟨0, by omega, rfl, Below.refl _ _, by simp⟩
  case round =>
    obtain ⟨i, hi, rfl, hbr, hall⟩ := hrel
    have HBR := Lib.hid hbr
    have HALL := Lib.hid hall
    clear hbr hall
    by_cases hlt : i < l.length
    · have m1 : (i : Int) < (l.length : Int) := by omega
      obtain ⟨g, off, rfl, hg, hr⟩ := (HS.out.below HBR.out).int i hlt
      have HMEM : Hid (l[i] ∈ l) := List.getElem_mem hlt
      have HST : Hid (p l[i] = false → ∀ x ∈ l.take (i + 1), p x = false) := fun h x hx => by
        rw [List.take_succ_eq_append_getElem hlt] at hx
        rcases List.mem_append.1 hx with hx | hx
        · exact HALL.out x hx
        · simp only [List.mem_singleton] at hx; rw [hx]; exact h
      generalize l[i] = t at *
      have HPT := Lib.hid fun wx => HP.out t wx
      clear hg
      cases hq : p t with
      | true =>
        rw [hq] at HPT
        have HQ := Lib.hid hq
        clear hq
        go_wp2_with fail
        refine (HPT.out _).mono ?_
        rintro e w' ⟨rfl, rfl⟩
        go_wp2_with fail
        go_ret
        exact ⟨(i : Int), rfl, HBR.out, by omega, by omega, .inr ⟨by omega, t, HMEM.out, HQ.out⟩⟩
      | false =>
        rw [hq] at HPT
        have HQ := Lib.hid (HST.out hq)
        clear hq
        go_wp2_with fail
        refine (HPT.out _).mono ?_
        rintro e w' ⟨rfl, rfl⟩
        go_wp2_with fail
        go_roundw
        case rel => exact ⟨i + 1, by omega, by go_num, HBR.out, HQ.out⟩
        case measure => simp [intOf]; omega
    · have m1 : ¬ (i : Int) < (l.length : Int) := by omega
      have HE : Hid (∀ x ∈ l, p x = false) := by
        have h := HALL.out
        rwa [List.take_of_length_le (by omega)] at h
      go_wp2_with fail
      go_ret
      exact ⟨-1, rfl, HBR.out, by omega, by omega, .inl ⟨rfl, HE.out⟩⟩
theorem containsInt_any (p : Int → Bool) (hp : ∀ n wx, Calls Tryd.prog 153 #[.int .i64 n] wx fun e w' => e = .returned (.bool (p n)) ∧ w' = wx) (a : Option Addr) (cap : Nat) (l : List Int) (w : World) (h : SAt 1 iC w a l) (hl : l.length ≤ 9223372036854775807) :
    Calls Tryd.prog 104 #[.slice a l.length cap, .func (Fn.func 153) #[] #[]] w fun e w' => e = .returned (.bool (l.any p)) ∧ Below w.heap.size w w' := by
  have HI := Lib.hid (indexInt_any p hp a cap l w h hl)
  clear hp h
  go_enter Tryd.func104, Tryd.ntmps104
  go_wp2_with fail
  refine HI.out.mono ?_
  rintro e w' ⟨r, rfl, hb, h1, h2, hr⟩
  rcases hr with ⟨rfl, hr⟩ | ⟨h0, x, hx, hr⟩
  · have HR : Hid (l.any p = false) := by show _ = _; rw [List.any_eq_false]; intro x hx; simp [hr x hx]
    clear hr
    go_wp2_with fail
    go_ret
    exact ⟨by rw [HR.out]; rfl, hb⟩
  · have HR : Hid (l.any p = true) := List.any_eq_true.2 ⟨x, hx, hr⟩
    clear hr
    go_wp2_with fail
    go_ret
    exact ⟨by rw [HR.out]; rfl, hb⟩
namespace Plain
/-- what Kraft answers -/
def kr (l : List Int) : Nat × Nat := if l.length < 1 ∨ 256 < l.length ∨ l.any bad = true then (0, 1) else (ks l, 0)
theorem getD_get {l : List Int} {i : Nat} (h : i < l.length) : l.getD i 0 = l[i] := by rw [List.getD_eq_getElem?_getD, List.getElem?_eq_getElem h]; rfl
end Plain
theorem shl_one (n : Int) (h1 : 0 < n) (h2 : n ≤ 48) : IntKind.i64.wrap ((1 : Int) * 2 ^ (48 - n).toNat) = ((2 ^ (48 - n.toNat) : Nat) : Int) := by
  have e : (48 - n).toNat = 48 - n.toNat := by omega
  rw [e]
  have hlt : (2 : Nat) ^ (48 - n.toNat) ≤ 2 ^ 47 := Nat.pow_le_pow_right (by decide) (by omega)
  have h47 : (2 : Nat) ^ 47 = 140737488355328 := by decide +kernel
  have e2 : ((1 : Int) * 2 ^ (48 - n.toNat)) = ((2 ^ (48 - n.toNat) : Nat) : Int) := by simp
  rw [e2]
  generalize 2 ^ (48 - n.toNat) = c at *
  rw [IntKind.wrap_i64]
  omega
set_option maxRecDepth 100000 in
set_option maxHeartbeats 1000000 in
theorem kraft_any (a : Option Addr) (cap : Nat) (l : List Int) (w : World) (h : SAt 1 iC w a l) (hl : l.length ≤ 9223372036854775807) :
    Calls Tryd.prog 111 #[.slice a l.length cap] w fun e w' => e = .returned (.tuple #[.int .i64 ((kr l).1 : Nat), .int .i64 ((kr l).2 : Nat)]) ∧ Below w.heap.size w w' := by
  have HS := Lib.hid h
  have HCF := Lib.hid fun wx (hx : SAt 1 iC wx a l) => containsInt_any bad kbad_any a cap l wx hx hl
  clear h
  by_cases c1 : l.length < 1
  · have HR : Hid (kr l = (0, 1)) := by show _ = _; unfold kr; rw [if_pos (Or.inl c1)]
    have n1 : (l.length : Int) < 1 := by omega
    go_enter Tryd.func111, Tryd.ntmps111
    go_wp2_with fail
    go_ret2
    exact ⟨by rw [HR.out]; rfl, Below.refl _ _⟩
  · have n1 : ¬ (l.length : Int) < 1 := by omega
    by_cases c2 : 256 < l.length
    · have HR : Hid (kr l = (0, 1)) := by show _ = _; unfold kr; rw [if_pos (Or.inr (Or.inl c2))]
      have n2 : 256 < (l.length : Int) := by omega
      go_enter Tryd.func111, Tryd.ntmps111
      go_wp2_with fail
      go_ret2
      exact ⟨by rw [HR.out]; rfl, Below.refl _ _⟩
    · have n2 : ¬ 256 < (l.length : Int) := by omega
      cases c3 : l.any bad with
      | true =>
        have HR : Hid (kr l = (0, 1)) := by show _ = _; unfold kr; rw [if_pos (Or.inr (Or.inr c3))]
        rw [c3] at HCF
        clear c3
        go_enter Tryd.func111, Tryd.ntmps111
        go_wp2_with fail
        refine (HCF.out _ HS.out).mono ?_
        rintro e w1 ⟨rfl, hb1⟩
        go_wp2_with fail
        go_ret2
        exact ⟨by rw [HR.out]; rfl, hb1⟩
      | false =>
        have HR : Hid (kr l = (ks l, 0)) := by
          show _ = _
          unfold kr
          rw [if_neg]
          intro h
          rcases h with h | h | h
          · exact c1 h
          · exact c2 h
          · rw [c3] at h; cases h
        have HB : Hid (∀ n ∈ l, 0 ≤ n ∧ n ≤ 48) := fun n hn => by
          have := List.any_eq_false.1 c3 n hn
          simp only [bad, decide_eq_true_eq] at this
          omega
        rw [c3] at HCF
        clear c3
        go_enter Tryd.func111, Tryd.ntmps111
        go_wp2_with fail
        refine (HCF.out _ HS.out).mono ?_
        rintro e w1 ⟨rfl, hb1⟩
        have HB1 := Lib.hid hb1
        clear hb1
        go_wp2_with fail
        go_loopw [4, 21] (fun sv iv wr => ∃ (i s : Nat), iv = .int .i64 (i : Int) ∧ i ≤ l.length ∧ sv = .int .i64 (s : Int) ∧ s = sumIf (fun t => decide (0 < l.getD t 0)) (wt l) i ∧ s ≤ i * 140737488355328 ∧ Below w.heap.size w wr) (fun _ iv _ => l.length - (intOf iv).toNat)
        case atStart => exact ⟨0, 0, rfl, by omega, rfl, rfl, by omega, HB1.out⟩
        case round =>
          obtain ⟨i, s, rfl, hi, rfl, hs, hsb, hbr⟩ := hrel
          have HBR := Lib.hid hbr
          have HSS := Lib.hid hs
          clear HB1 hbr hs
          by_cases hlt : i < l.length
          · have m1 : (i : Int) < (l.length : Int) := by omega
            obtain ⟨g, off, rfl, hg, hr⟩ := (HS.out.below HBR.out).int i hlt
            have hbd := HB.out _ (List.getElem_mem hlt)
            have HGD := Lib.hid (getD_get hlt)
            have HSUM : Hid (sumIf (fun t => decide (0 < l.getD t 0)) (wt l) (i + 1) = sumIf (fun t => decide (0 < l.getD t 0)) (wt l) i + if decide (0 < l.getD i 0) = true then wt l i else 0) := rfl
            have HWT : Hid (wt l i = 2 ^ (48 - (l.getD i 0).toNat)) := rfl
            rw [HGD.out] at HSUM HWT
            generalize l[i] = t at *
            obtain ⟨hb0, hb48⟩ := hbd
            by_cases ht : 0 < t
            · have hsl0 := shl_one t ht hb48
              have hsl := hsl0
              rw [Int.one_mul] at hsl
              clear hsl0
              have HW2 : Hid (2 ^ (48 - t.toNat) ≤ 140737488355328) := by
                show _ ≤ _
                have : (2 : Nat) ^ (48 - t.toNat) ≤ 2 ^ 47 := Nat.pow_le_pow_right (by decide) (by omega)
                have h47 : (2 : Nat) ^ 47 = 140737488355328 := by decide +kernel
                omega
              have HSM2 : Hid (s + 2 ^ (48 - t.toNat) = sumIf (fun t => decide (0 < l.getD t 0)) (wt l) (i + 1)) := by show _ = _; rw [HSUM.out, if_pos (by simpa using ht), HWT.out, HSS.out]
              obtain ⟨c, hc⟩ : ∃ c, c = 2 ^ (48 - t.toNat) := ⟨_, rfl⟩
              rw [← hc] at hsl HW2 HSM2
              have hcb := HW2.out
              have hcb2 : (c : Int) ≤ 140737488355328 := by omega
              have hs55 : (s : Int) ≤ 36028797018963968 := by omega
              clear hc hg
              go_wp2_with fail
              go_roundw
              case rel => exact ⟨i + 1, s + c, by go_num, by omega, by trace_state; go_num, HSM2.out, by rw [Nat.succ_mul]; exact Nat.add_le_add hsb hcb, HBR.out⟩
              case measure => simp [intOf]; omega
            · have HSM2 : Hid (s = sumIf (fun t => decide (0 < l.getD t 0)) (wt l) (i + 1)) := by show _ = _; rw [HSUM.out, if_neg (by simpa using ht), HSS.out]; rfl
              clear hg
              go_wp2_with fail
              go_roundw
              case rel => exact ⟨i + 1, s, by go_num, by omega, rfl, HSM2.out, Nat.le_trans hsb (Nat.mul_le_mul_right _ (Nat.le_succ i)), HBR.out⟩
              case measure => simp [intOf]; omega
          · have m1 : ¬ (i : Int) < (l.length : Int) := by omega
            obtain rfl : i = l.length := by omega
            have HK : Hid (s = ks l) := HSS.out
            go_wp2_with fail
            go_ret2
            exact ⟨by rw [HR.out, ← HK.out]; rfl, HBR.out⟩
end Go.Proofs.YtbfhhnpoogmlnaaDoor
