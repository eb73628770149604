/- The walks of package keep: Check, the rules' functions, the rules. -/
import Derived.Test.YthfjonicolhjnaaKeepMap
import Derived.Test.YthfjonicolhjnaaCivilD
import Derived.Test.YthfjonicolhjnaaResults
namespace Go.Proofs.Ythfjonicolhjnaa
open Go.RowKit Plain
def polV (p : Pol) : Value := .agg #[.int .i64 p.last, .int .i64 p.days, .int .i64 p.weeks, .int .i64 p.months, .int .i64 p.years]
theorem idx5 (a b c d e : Int) (u : World) :
    (Instr.index 82 (.agg #[.int .i64 a, .int .i64 b, .int .i64 c, .int .i64 d, .int .i64 e]) (.int .i64 0)).run Try.prog u = .ok (.int .i64 a) u ∧
    (Instr.index 82 (.agg #[.int .i64 a, .int .i64 b, .int .i64 c, .int .i64 d, .int .i64 e]) (.int .i64 1)).run Try.prog u = .ok (.int .i64 b) u ∧
    (Instr.index 82 (.agg #[.int .i64 a, .int .i64 b, .int .i64 c, .int .i64 d, .int .i64 e]) (.int .i64 2)).run Try.prog u = .ok (.int .i64 c) u ∧
    (Instr.index 82 (.agg #[.int .i64 a, .int .i64 b, .int .i64 c, .int .i64 d, .int .i64 e]) (.int .i64 3)).run Try.prog u = .ok (.int .i64 d) u ∧
    (Instr.index 82 (.agg #[.int .i64 a, .int .i64 b, .int .i64 c, .int .i64 d, .int .i64 e]) (.int .i64 4)).run Try.prog u = .ok (.int .i64 e) u := by
  refine ⟨?_, ?_, ?_, ?_, ?_⟩ <;> kernel_rfl
set_option maxRecDepth 100000 in
theorem kcheck_any (a b c d e : Int) (w : World) :
    Calls Try.prog 33 #[.agg #[.int .i64 a, .int .i64 b, .int .i64 c, .int .i64 d, .int .i64 e]] w fun r w' => Below w.heap.size w w' ∧ ((pOK ⟨a, b, c, d, e⟩ ∧ r = .returned (.int .i64 0)) ∨ (¬ pOK ⟨a, b, c, d, e⟩ ∧ r = .returned (.int .i64 1))) := by
  have HB : Hid (Below w.heap.size w (w.alloc (.cells #[.int .i64 a, .int .i64 b, .int .i64 c, .int .i64 d, .int .i64 e] 48))) := (Below.refl _ _).alloc (Nat.le_refl _) _
  have HP : Hid (pOK ⟨a, b, c, d, e⟩ ↔ ((0 ≤ a ∧ a ≤ 100) ∧ (0 ≤ b ∧ b ≤ 100) ∧ (0 ≤ c ∧ c ≤ 100) ∧ (0 ≤ d ∧ d ≤ 100) ∧ (0 ≤ e ∧ e ≤ 100))) := Iff.rfl
  go_enter Try.func33, Try.ntmps33
  go_wp2_with fail
  go_loopw [16] (fun iv wr => ∃ i : Nat, i ≤ 5 ∧ iv = .int .i64 (i : Int) ∧ Below w.heap.size w wr ∧ Hid ((0 < i → 0 ≤ a ∧ a ≤ 100) ∧ (1 < i → 0 ≤ b ∧ b ≤ 100) ∧ (2 < i → 0 ≤ c ∧ c ≤ 100) ∧ (3 < i → 0 ≤ d ∧ d ≤ 100) ∧ (4 < i → 0 ≤ e ∧ e ≤ 100))) (fun iv _ => 5 - (intOf iv).toNat)
  case atStart => exact ⟨0, by omega, rfl, HB.out, Lib.hid ⟨by omega, by omega, by omega, by omega, by omega⟩⟩
  case round =>
    obtain ⟨i, hi, rfl, hbr, hok⟩ := hrel
    have HBR := Lib.hid hbr
    clear hbr HB
    have ⟨x0, x1, x2, x3, x4⟩ := idx5 a b c d e wr
    obtain rfl | rfl | rfl | rfl | rfl | rfl : i = 0 ∨ i = 1 ∨ i = 2 ∨ i = 3 ∨ i = 4 ∨ i = 5 := by omega
    · by_cases h1 : a < 0
      · go_wp2_with fail
        go_ret
        exact ⟨HBR.out, .inr ⟨fun h => by have := HP.out.1 h; omega, rfl⟩⟩
      · by_cases h2 : 100 < a
        · go_wp2_with fail
          go_ret
          exact ⟨HBR.out, .inr ⟨fun h => by have := HP.out.1 h; omega, rfl⟩⟩
        · go_wp2_with fail
          go_roundw
          case rel => exact ⟨1, by omega, by go_num, HBR.out, Lib.hid (by have := hok.out; omega)⟩
          case measure => simp [intOf]
    · by_cases h1 : b < 0
      · go_wp2_with fail
        go_ret
        exact ⟨HBR.out, .inr ⟨fun h => by have := HP.out.1 h; omega, rfl⟩⟩
      · by_cases h2 : 100 < b
        · go_wp2_with fail
          go_ret
          exact ⟨HBR.out, .inr ⟨fun h => by have := HP.out.1 h; omega, rfl⟩⟩
        · go_wp2_with fail
          go_roundw
          case rel => exact ⟨2, by omega, by go_num, HBR.out, Lib.hid (by have := hok.out; omega)⟩
          case measure => simp [intOf]
    · by_cases h1 : c < 0
      · go_wp2_with fail
        go_ret
        exact ⟨HBR.out, .inr ⟨fun h => by have := HP.out.1 h; omega, rfl⟩⟩
      · by_cases h2 : 100 < c
        · go_wp2_with fail
          go_ret
          exact ⟨HBR.out, .inr ⟨fun h => by have := HP.out.1 h; omega, rfl⟩⟩
        · go_wp2_with fail
          go_roundw
          case rel => exact ⟨3, by omega, by go_num, HBR.out, Lib.hid (by have := hok.out; omega)⟩
          case measure => simp [intOf]
    · by_cases h1 : d < 0
      · go_wp2_with fail
        go_ret
        exact ⟨HBR.out, .inr ⟨fun h => by have := HP.out.1 h; omega, rfl⟩⟩
      · by_cases h2 : 100 < d
        · go_wp2_with fail
          go_ret
          exact ⟨HBR.out, .inr ⟨fun h => by have := HP.out.1 h; omega, rfl⟩⟩
        · go_wp2_with fail
          go_roundw
          case rel => exact ⟨4, by omega, by go_num, HBR.out, Lib.hid (by have := hok.out; omega)⟩
          case measure => simp [intOf]
    · by_cases h1 : e < 0
      · go_wp2_with fail
        go_ret
        exact ⟨HBR.out, .inr ⟨fun h => by have := HP.out.1 h; omega, rfl⟩⟩
      · by_cases h2 : 100 < e
        · go_wp2_with fail
          go_ret
          exact ⟨HBR.out, .inr ⟨fun h => by have := HP.out.1 h; omega, rfl⟩⟩
        · go_wp2_with fail
          go_roundw
          case rel => exact ⟨5, by omega, by go_num, HBR.out, Lib.hid (by have := hok.out; omega)⟩
          case measure => simp [intOf]
    · go_wp2_with fail
      go_ret
      exact ⟨HBR.out, .inl ⟨HP.out.2 (by have := hok.out; omega), rfl⟩⟩
theorem heap_alloc2 (w : World) (o p : Obj) : ((w.alloc o).alloc p).heap[w.heap.size + 1]? = some p := by
  have h := heap_alloc_new (w.alloc o) p
  have e : (w.alloc o).heap.size = w.heap.size + 1 := by simp
  rwa [e] at h
theorem info_span : (Try.prog.info? 76).map (·.size) = some 2 := by kernel_rfl
set_option maxRecDepth 100000 in
theorem rule1_any (n : Int) (w : World) (_h0 : -719162 ≤ n) (_h1 : n ≤ 2932896) :
    Calls Try.prog 37 #[.int .i64 n] w fun r w' => r = .returned (kV (n, 0)) ∧ Below w.heap.size w w' := by
  have HB : Hid (Below w.heap.size w (w.alloc (.cells #[.int .i64 (n), .int .i64 (0)] 76))) := (Below.refl _ _).alloc (Nat.le_refl _) _
  have HN : Hid ((w.alloc (.cells #[.int .i64 (n), .int .i64 (0)] 76)).heap[w.heap.size]? = some (.cells #[.int .i64 (n), .int .i64 (0)] 76 (0, 0))) := heap_alloc_new w _
  go_enter Try.func37, Try.ntmps37
  go_wp2_with fail
  refine bodyPost_ret (results_row (p := 2) (ty := 76) rfl _ _ w.heap.size 76 _ (0, 0) _ rfl HN.out und_span rfl info_span) rfl ?_
  exact ⟨rfl, HB.out⟩
set_option maxRecDepth 100000 in
theorem rule2_any (n : Int) (w : World) (h0 : -719162 ≤ n) (h1 : n ≤ 2932896) :
    Calls Try.prog 38 #[.int .i64 n] w fun r w' => r = .returned (kV (wkY n, wkW n)) ∧ Below w.heap.size w w' := by
  have HB : Hid (Below w.heap.size w (w.alloc (.cells #[.int .i64 (dY (n + (4 - wday n))), .int .i64 ((n + (4 - wday n) - ybeg (dY (n + (4 - wday n)))) / 7 + 1)] 76))) := (Below.refl _ _).alloc (Nat.le_refl _) _
  have HN : Hid ((w.alloc (.cells #[.int .i64 (dY (n + (4 - wday n))), .int .i64 ((n + (4 - wday n) - ybeg (dY (n + (4 - wday n)))) / 7 + 1)] 76)).heap[w.heap.size]? = some (.cells #[.int .i64 (dY (n + (4 - wday n))), .int .i64 ((n + (4 - wday n) - ybeg (dY (n + (4 - wday n)))) / 7 + 1)] 76 (0, 0))) := heap_alloc_new w _
  go_enter Try.func38, Try.ntmps38
  go_wp2_with fail
  refine (Week_in n _ h0 h1).mono ?_
  rintro e w1 ⟨rfl, rfl⟩
  go_wp2_with fail
  refine bodyPost_ret (results_row (p := 2) (ty := 76) rfl _ _ w.heap.size 76 _ (0, 0) _ rfl HN.out und_span rfl info_span) rfl ?_
  exact ⟨rfl, HB.out⟩
set_option maxRecDepth 100000 in
theorem rule3_any (n : Int) (w : World) (h0 : -719162 ≤ n) (h1 : n ≤ 2932896) :
    Calls Try.prog 39 #[.int .i64 n] w fun r w' => r = .returned (kV (dY n, dM n)) ∧ Below w.heap.size w w' := by
  have HB : Hid (Below w.heap.size w (w.alloc (.cells #[.int .i64 (dY n), .int .i64 (dM n)] 76))) := (Below.refl _ _).alloc (Nat.le_refl _) _
  have HN : Hid ((w.alloc (.cells #[.int .i64 (dY n), .int .i64 (dM n)] 76)).heap[w.heap.size]? = some (.cells #[.int .i64 (dY n), .int .i64 (dM n)] 76 (0, 0))) := heap_alloc_new w _
  go_enter Try.func39, Try.ntmps39
  go_wp2_with fail
  refine (Date_in n _ h0 h1).mono ?_
  rintro e w1 ⟨rfl, rfl⟩
  go_wp2_with fail
  refine bodyPost_ret (results_row (p := 2) (ty := 76) rfl _ _ w.heap.size 76 _ (0, 0) _ rfl HN.out und_span rfl info_span) rfl ?_
  exact ⟨rfl, HB.out⟩
set_option maxRecDepth 100000 in
theorem rule4_any (n : Int) (w : World) (h0 : -719162 ≤ n) (h1 : n ≤ 2932896) :
    Calls Try.prog 40 #[.int .i64 n] w fun r w' => r = .returned (kV (dY n, 0)) ∧ Below w.heap.size w w' := by
  have HB : Hid (Below w.heap.size w (w.alloc (.cells #[.int .i64 (dY n), .int .i64 (0)] 76))) := (Below.refl _ _).alloc (Nat.le_refl _) _
  have HN : Hid ((w.alloc (.cells #[.int .i64 (dY n), .int .i64 (0)] 76)).heap[w.heap.size]? = some (.cells #[.int .i64 (dY n), .int .i64 (0)] 76 (0, 0))) := heap_alloc_new w _
  go_enter Try.func40, Try.ntmps40
  go_wp2_with fail
  refine (Date_in n _ h0 h1).mono ?_
  rintro e w1 ⟨rfl, rfl⟩
  go_wp2_with fail
  refine bodyPost_ret (results_row (p := 2) (ty := 76) rfl _ _ w.heap.size 76 _ (0, 0) _ rfl HN.out und_span rfl info_span) rfl ?_
  exact ⟨rfl, HB.out⟩
theorem rules_any (a b c d e : Int) (w : World) :
    Calls Try.prog 34 #[.agg #[.int .i64 a, .int .i64 b, .int .i64 c, .int .i64 d, .int .i64 e]] w fun r w' => ∃ g, r = .returned (.slice (some ⟨g, 0, none⟩) 4 4) ∧ w.heap.size ≤ g ∧ Below w.heap.size w w' ∧
      w'.heap[g]? = some (.cells #[.int .i64 b, .func (.func 37) #[] #[], .int .i64 c, .func (.func 38) #[] #[], .int .i64 d, .func (.func 39) #[] #[], .int .i64 e, .func (.func 40) #[] #[]] 73 (0, 0)) := by
  go_enter Try.func34, Try.ntmps34
  go_wp2_with fail
  go_ret
  exact ⟨w.heap.size + 1, rfl, by omega, ((Below.refl _ _).alloc (Nat.le_refl _) _).alloc (by simp) _, (heap_alloc2 _ _ _)⟩
end Go.Proofs.Ythfjonicolhjnaa
