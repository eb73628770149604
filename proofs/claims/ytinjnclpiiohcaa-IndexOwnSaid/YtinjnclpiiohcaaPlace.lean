/- Places in memory; index.place walked. -/
import Derived.Test.YtinjnclpiiohcaaIdCmp
import Derived.Test.YtinjnclpiiohcaaSlices
namespace Go.Proofs.Ytinjnclpiiohcaa
open Go.RowKit Plain
abbrev ID8 := Nat × Nat × Nat × Nat × Nat × Nat × Nat × Nat
abbrev Pl := ID8 × Int × Int × Int × Int
def plC (p : Pl) : List Value := (idL p.1).map bV ++ [.int .i64 p.2.1, .int .i64 p.2.2.1, .int .i64 p.2.2.2.1, .int .i64 p.2.2.2.2]
def plV (p : Pl) : Value := .agg (plC p).toArray
theorem plC_length (p : Pl) : (plC p).length = 12 := rfl
namespace Plain
def kOk (k : Int) : Prop := 1 ≤ k ∧ k ≤ 3
def rOk (n : Int) : Prop := 0 ≤ n ∧ n ≤ 1099511627776
def pOk (p : Pl) : Prop := kOk p.2.1 ∧ rOk p.2.2.1 ∧ rOk p.2.2.2.1 ∧ rOk p.2.2.2.2
instance (k : Int) : Decidable (kOk k) := by unfold kOk; infer_instance
instance (k : Int) : Decidable (rOk k) := by unfold rOk; infer_instance
instance (p : Pl) : Decidable (pOk p) := by unfold pOk; infer_instance
end Plain
set_option maxRecDepth 100000 in
theorem known_any (k : Int) (w : World) : Calls Try.prog 77 #[.int .i64 k] w fun e w' => e = .returned (.bool (decide (kOk k))) ∧ w' = w := by
  by_cases h1 : 1 ≤ k
  · have f1 : decide (k ≥ 1) = true := decide_eq_true h1
    have HE : Hid (decide (kOk k) = decide (k ≤ 3)) := by show _ = _; exact decide_eq_decide.2 ⟨fun h => h.2, fun h => ⟨h1, h⟩⟩
    go_enter Try.func77, Try.ntmps77
    go_wp2_with fail
    go_ret
    exact ⟨by rw [HE.out]; rfl, rfl⟩
  · have HE : Hid (decide (kOk k) = false) := decide_eq_false fun h => h1 h.1
    go_enter Try.func77, Try.ntmps77
    go_wp2_with fail
    go_ret
    exact ⟨by rw [HE.out]; rfl, rfl⟩
set_option maxRecDepth 100000 in
theorem inRange_any (k : Int) (w : World) : Calls Try.prog 65 #[.int .i64 k] w fun e w' => e = .returned (.bool (decide (rOk k))) ∧ w' = w := by
  by_cases h1 : 0 ≤ k
  · have f1 : decide (k ≥ 0) = true := decide_eq_true h1
    have HE : Hid (decide (rOk k) = decide (k ≤ 1099511627776)) := by show _ = _; exact decide_eq_decide.2 ⟨fun h => h.2, fun h => ⟨h1, h⟩⟩
    go_enter Try.func65, Try.ntmps65
    go_wp2_with fail
    go_ret
    exact ⟨by rw [HE.out]; rfl, rfl⟩
  · have HE : Hid (decide (rOk k) = false) := decide_eq_false fun h => h1 h.1
    go_enter Try.func65, Try.ntmps65
    go_wp2_with fail
    go_ret
    exact ⟨by rw [HE.out]; rfl, rfl⟩
def PlEnd (w0 : World) (p : Pl) (e : Ending) (w : World) : Prop := ∃ c : Nat, e = .returned (.int .i64 (c : Int)) ∧ (c = 0 ↔ pOk p) ∧ Below w0.heap.size w0 w
set_option maxRecDepth 100000 in
theorem place_any (p : Pl) (w : World) : Calls Try.prog 63 #[plV p] w (PlEnd w p) := by
  obtain ⟨⟨b0, b1, b2, b3, b4, b5, b6, b7⟩, k, q, a, n⟩ := p
  have HK := Lib.hid fun u => known_any k u
  have HQ := Lib.hid fun u => inRange_any q u
  have HA := Lib.hid fun u => inRange_any a u
  have HN := Lib.hid fun u => inRange_any n u
  have HB := Lib.hid ((Below.refl w.heap.size w).alloc (Nat.le_refl _) (.cells (plC ((b0, b1, b2, b3, b4, b5, b6, b7), k, q, a, n)).toArray 69))
  unfold plV
  simp only [plC, idL, List.map_cons, List.map_nil, List.cons_append, List.nil_append, bV] at HB ⊢
  by_cases hk : kOk k
  · rw [decide_eq_true hk] at HK
    by_cases hq : rOk q
    · rw [decide_eq_true hq] at HQ
      by_cases ha : rOk a
      · rw [decide_eq_true ha] at HA
        by_cases hn : rOk n
        · rw [decide_eq_true hn] at HN
          have HR : Hid (pOk ((b0, b1, b2, b3, b4, b5, b6, b7), k, q, a, n)) := ⟨hk, hq, ha, hn⟩
          clear hk hq ha hn
          go_enter Try.func63, Try.ntmps63
          go_wp2_with fail
          refine (HK.out _).mono ?_
          rintro e w1 ⟨rfl, rfl⟩
          go_wp2_with fail
          refine (HQ.out _).mono ?_
          rintro e w2 ⟨rfl, rfl⟩
          go_wp2_with fail
          refine (HA.out _).mono ?_
          rintro e w3 ⟨rfl, rfl⟩
          go_wp2_with fail
          refine (HN.out _).mono ?_
          rintro e w4 ⟨rfl, rfl⟩
          go_wp2_with fail
          go_ret
          exact ⟨0, rfl, by simp [HR.out], HB.out⟩
        · rw [decide_eq_false hn] at HN
          have HR : Hid (¬ pOk ((b0, b1, b2, b3, b4, b5, b6, b7), k, q, a, n)) := fun h => hn h.2.2.2
          clear hk hq ha hn
          go_enter Try.func63, Try.ntmps63
          go_wp2_with fail
          refine (HK.out _).mono ?_
          rintro e w1 ⟨rfl, rfl⟩
          go_wp2_with fail
          refine (HQ.out _).mono ?_
          rintro e w2 ⟨rfl, rfl⟩
          go_wp2_with fail
          refine (HA.out _).mono ?_
          rintro e w3 ⟨rfl, rfl⟩
          go_wp2_with fail
          refine (HN.out _).mono ?_
          rintro e w4 ⟨rfl, rfl⟩
          go_wp2_with fail
          go_ret
          exact ⟨1, rfl, by simp [HR.out], HB.out⟩
      · rw [decide_eq_false ha] at HA
        have HR : Hid (¬ pOk ((b0, b1, b2, b3, b4, b5, b6, b7), k, q, a, n)) := fun h => ha h.2.2.1
        clear hk hq ha
        go_enter Try.func63, Try.ntmps63
        go_wp2_with fail
        refine (HK.out _).mono ?_
        rintro e w1 ⟨rfl, rfl⟩
        go_wp2_with fail
        refine (HQ.out _).mono ?_
        rintro e w2 ⟨rfl, rfl⟩
        go_wp2_with fail
        refine (HA.out _).mono ?_
        rintro e w3 ⟨rfl, rfl⟩
        go_wp2_with fail
        go_ret
        exact ⟨1, rfl, by simp [HR.out], HB.out⟩
    · rw [decide_eq_false hq] at HQ
      have HR : Hid (¬ pOk ((b0, b1, b2, b3, b4, b5, b6, b7), k, q, a, n)) := fun h => hq h.2.1
      clear hk hq
      go_enter Try.func63, Try.ntmps63
      go_wp2_with fail
      refine (HK.out _).mono ?_
      rintro e w1 ⟨rfl, rfl⟩
      go_wp2_with fail
      refine (HQ.out _).mono ?_
      rintro e w2 ⟨rfl, rfl⟩
      go_wp2_with fail
      go_ret
      exact ⟨1, rfl, by simp [HR.out], HB.out⟩
  · rw [decide_eq_false hk] at HK
    have HR : Hid (¬ pOk ((b0, b1, b2, b3, b4, b5, b6, b7), k, q, a, n)) := fun h => hk h.1
    clear hk
    go_enter Try.func63, Try.ntmps63
    go_wp2_with fail
    refine (HK.out _).mono ?_
    rintro e w1 ⟨rfl, rfl⟩
    go_wp2_with fail
    go_ret
    exact ⟨5, rfl, by simp [HR.out], HB.out⟩
end Go.Proofs.Ytinjnclpiiohcaa
