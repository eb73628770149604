/- Plain law of MixApart: lists of one length that differ within one block have different sums. -/
import Derived.Test.YtpfmfigommmjiaaDoorEqBytes
namespace Go.Proofs.YtpfmfigommmjiaaDoor
open Go.RowKit Plain
namespace Plain
theorem dig (a b r s : Nat) (ha : a < 256) (hb : b < 256) (h : a + 256 * r = b + 256 * s) : a = b ∧ r = s := by omega
theorem le64_nest (a0 a1 a2 a3 a4 a5 a6 a7 : Nat) : le64 a0 a1 a2 a3 a4 a5 a6 a7 = a0 + 256 * (a1 + 256 * (a2 + 256 * (a3 + 256 * (a4 + 256 * (a5 + 256 * (a6 + 256 * a7)))))) := by unfold le64; omega
theorem leL_inj {l m : List Nat} (hl : l.length = 8) (hm : m.length = 8) (hbl : ∀ c ∈ l, c < 256) (hbm : ∀ c ∈ m, c < 256) (h : leL l = leL m) : l = m := by
  match l, hl, m, hm with
  | [a0, a1, a2, a3, a4, a5, a6, a7], _, [b0, b1, b2, b3, b4, b5, b6, b7], _ =>
    unfold leL at h
    simp only [List.getD_cons_zero, List.getD_cons_succ] at h
    rw [le64_nest, le64_nest] at h
    obtain ⟨e0, h⟩ := dig _ _ _ _ (hbl a0 (by simp)) (hbm b0 (by simp)) h
    obtain ⟨e1, h⟩ := dig _ _ _ _ (hbl a1 (by simp)) (hbm b1 (by simp)) h
    obtain ⟨e2, h⟩ := dig _ _ _ _ (hbl a2 (by simp)) (hbm b2 (by simp)) h
    obtain ⟨e3, h⟩ := dig _ _ _ _ (hbl a3 (by simp)) (hbm b3 (by simp)) h
    obtain ⟨e4, h⟩ := dig _ _ _ _ (hbl a4 (by simp)) (hbm b4 (by simp)) h
    obtain ⟨e5, h⟩ := dig _ _ _ _ (hbl a5 (by simp)) (hbm b5 (by simp)) h
    obtain ⟨e6, h⟩ := dig _ _ _ _ (hbl a6 (by simp)) (hbm b6 (by simp)) h
    rw [e0, e1, e2, e3, e4, e5, e6, h]
theorem step_full (x b : Nat) : mstep x b &&& full = mstep x b := and_full _ (lt64 (mstep_lt x b))
theorem leL_M (l : List Nat) (h : ∀ c ∈ l, c < 256) : leL (pad8 l) < M64 := by rw [m64]; exact leL_lt _ (pad8_lt _ h)
/-- the state is determined by where it leads -/
theorem mfold_inj : ∀ (n : Nat) (l : List Nat), l.length ≤ n → (∀ c ∈ l, c < 256) → ∀ x y, x < M64 → y < M64 → mfold full x l = mfold full y l → x = y
  | 0, l, hn, _, x, y, _, _, h => by
    rw [mfold_nil _ _ _ (by omega), mfold_nil _ _ _ (by omega)] at h
    exact h
  | n + 1, l, hn, hb, x, y, hx, hy, h => by
    by_cases h0 : l.length = 0
    · rw [mfold_nil full x l h0, mfold_nil full y l h0] at h
      exact h
    · rw [mfold_step full x l h0, mfold_step full y l h0, step_full, step_full] at h
      have := mfold_inj n (l.drop 8) (by rw [List.length_drop]; omega) (fun c hc => hb c (List.mem_of_mem_drop hc)) _ _ (mstep_lt _ _) (mstep_lt _ _) h
      exact mstep_inj_state hx hy (leL_M l hb) this
theorem pad8_take {l m : List Nat} (h : l.length = m.length) (e : pad8 l = pad8 m) : l.take 8 = m.take 8 := by
  unfold pad8 at e
  have := congrArg (List.take (l.take 8).length) e
  rw [List.take_left] at this
  rw [this]
  have hl : (l.take 8).length = (m.take 8).length := by simp [h]
  rw [hl, List.take_left]
theorem apart_fold : ∀ (i : Nat) (l m : List Nat) (x : Nat), x < M64 → (∀ c ∈ l, c < 256) → (∀ c ∈ m, c < 256) → l.length = m.length → l.take (8 * i) = m.take (8 * i) → l.drop (8 * i + 8) = m.drop (8 * i + 8) → mfold full x l = mfold full x m → l = m
  | 0, l, m, x, hx, hl, hm, hn, _, hd, h => by
    by_cases h0 : l.length = 0
    · exact (List.eq_nil_of_length_eq_zero h0).trans (List.eq_nil_of_length_eq_zero (show m.length = 0 by omega)).symm
    · rw [mfold_step full x l h0, mfold_step full x m (by rw [← hn]; exact h0), step_full, step_full] at h
      simp only [Nat.mul_zero, Nat.zero_add] at hd
      rw [← hd] at h
      have h1 := mfold_inj _ (l.drop 8) (Nat.le_refl _) (fun c hc => hl c (List.mem_of_mem_drop hc)) _ _ (mstep_lt _ _) (mstep_lt _ _) h
      have h2 := mstep_inj_block hx (leL_M l hl) (leL_M m hm) h1
      have h3 := pad8_take hn (leL_inj (pad8_length l) (pad8_length m) (pad8_lt l hl) (pad8_lt m hm) h2)
      rw [← List.take_append_drop 8 l, ← List.take_append_drop 8 m, h3, hd]
  | i + 1, l, m, x, hx, hl, hm, hn, ht, hd, h => by
    have t8 : l.take 8 = m.take 8 := by
      have := congrArg (List.take 8) ht
      rwa [List.take_take, List.take_take, Nat.min_eq_left (by omega)] at this
    by_cases h0 : l.length = 0
    · exact (List.eq_nil_of_length_eq_zero h0).trans (List.eq_nil_of_length_eq_zero (show m.length = 0 by omega)).symm
    · have hp : pad8 l = pad8 m := by unfold pad8; rw [t8, hn]
      rw [mfold_step full x l h0, mfold_step full x m (by rw [← hn]; exact h0), step_full, step_full, hp] at h
      have e := apart_fold i (l.drop 8) (m.drop 8) _ (mstep_lt _ _) (fun c hc => hl c (List.mem_of_mem_drop hc)) (fun c hc => hm c (List.mem_of_mem_drop hc)) (by rw [List.length_drop, List.length_drop, hn])
        (by
          have := congrArg (List.drop 8) ht
          rwa [List.drop_take, List.drop_take, show 8 * (i + 1) - 8 = 8 * i by omega] at this)
        (by rw [List.drop_drop, List.drop_drop, show 8 + (8 * i + 8) = 8 * (i + 1) + 8 by omega]; exact hd) h
      rw [← List.take_append_drop 8 l, ← List.take_append_drop 8 m, t8, e]
theorem mfold_lt (n : Nat) : ∀ (l : List Nat), l.length ≤ n → ∀ x, x < M64 → mfold full x l < M64 := by
  induction n with
  | zero => intro l h x hx; rw [mfold_nil _ _ _ (by omega)]; exact hx
  | succ n ih =>
    intro l h x hx
    by_cases h0 : l.length = 0
    · rw [mfold_nil _ _ _ h0]; exact hx
    · rw [mfold_step _ _ _ h0, step_full]
      exact ih _ (by rw [List.length_drop]; omega) _ (mstep_lt _ _)
theorem hsum_apart (i : Nat) (l m : List Nat) (hl : ∀ c ∈ l, c < 256) (hm : ∀ c ∈ m, c < 256) (hn : l.length = m.length) (hlen : l.length < M64) (ht : l.take (8 * i) = m.take (8 * i)) (hd : l.drop (8 * i + 8) = m.drop (8 * i + 8)) (h : hsum l = hsum m) : l = m := by
  unfold hsum msum at h
  rw [step_full, step_full, hn] at h
  have h1 := mstep_inj_state (mfold_lt _ l (Nat.le_refl _) 0 (by decide)) (mfold_lt _ m (Nat.le_refl _) 0 (by decide)) (by rw [← hn]; exact hlen) h
  exact apart_fold i l m 0 (by decide) hl hm hn ht hd h1
theorem take_set_le (l : List Nat) (j v n : Nat) (h : n ≤ j) : (l.set j v).take n = l.take n := by
  apply List.ext_getElem?
  intro k
  rw [List.getElem?_take, List.getElem?_take]
  by_cases hk : k < n
  · rw [if_pos hk, if_pos hk, List.getElem?_set_ne (by omega)]
  · rw [if_neg hk, if_neg hk]
theorem drop_set_lt (l : List Nat) (j v n : Nat) (h : j < n) : (l.set j v).drop n = l.drop n := by
  apply List.ext_getElem?
  intro k
  rw [List.getElem?_drop, List.getElem?_drop, List.getElem?_set_ne (by omega)]
end Plain
set_option maxRecDepth 100000 in
theorem rest_any (a n : Int) (w : World) (hn : 0 < n) (hn2 : n < 4611686018427387904) :
    Calls Tryd.prog 7 #[.int .i64 a, .int .i64 n] w fun e w' => (∃ r : Nat, (r : Int) < n ∧ e = .returned (.int .i64 (r : Int))) ∧ w' = w := by
  have h1 := Int.tmod_lt_of_pos a hn
  have h2 := Int.lt_tmod_of_pos a hn
  obtain ⟨t, ht⟩ : ∃ t, a.tmod n = t := ⟨_, rfl⟩
  rw [ht] at h1 h2
  have h3 := Int.tmod_lt_of_pos (t + n) hn
  have h4 : 0 ≤ (t + n).tmod n := Int.tmod_nonneg _ (by omega)
  obtain ⟨r, hr⟩ : ∃ r : Nat, (t + n).tmod n = (r : Int) := ⟨((t + n).tmod n).toNat, by omega⟩
  rw [hr] at h3 h4
  have hw : IntKind.i64.wrap (t + n) = t + n := wraps_i64 _ (by omega) (by omega)
  go_enter Tryd.func7, Tryd.ntmps7
  go_wp2
  go_ret
  exact ⟨⟨r, h3, rfl⟩, rfl⟩
end Go.Proofs.YtpfmfigommmjiaaDoor
