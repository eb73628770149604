/- Valid strings as their characters (plain Lean). -/
import Derived.Test.YtokckcmkbnhhhaaDoorGlobPlain
import Derived.Lib.ValidLaws
import Derived.Lib.MapLaws
namespace Go.Proofs.YtokckcmkbnhhhaaDoor
namespace Plain
open Lib (decodeN decodeL validD encodeRune)
set_option linter.unusedVariables false
set_option linter.unusedSimpArgs false
theorem decodeN_pre {n n' b0 b1 b2 b3 c1 c2 c3 : Nat} (hv : decodeN n b0 b1 b2 b3 ≠ (65533, 1)) (hn : (decodeN n b0 b1 b2 b3).2 ≤ n') (e1 : 1 < (decodeN n b0 b1 b2 b3).2 → c1 = b1) (e2 : 2 < (decodeN n b0 b1 b2 b3).2 → c2 = b2) (e3 : 3 < (decodeN n b0 b1 b2 b3).2 → c3 = b3) :
    decodeN n' b0 c1 c2 c3 = decodeN n b0 b1 b2 b3 := by
  rcases Lib.decodeN_shape n b0 b1 b2 b3 with ⟨c, e⟩ | ⟨h1, h2, h3, h4, e⟩ | ⟨h1, h2, h3, h4, h5, h6, e⟩ | ⟨h1, h2, h3, h4, h5, h6, h7, e⟩ | e
  · rw [e]; unfold decodeN; rw [if_pos c]
  · rw [e] at hn e1 ⊢
    have := e1 (by simp)
    subst this
    simp only at hn
    unfold decodeN
    rw [if_neg (by omega), if_pos ⟨h1, by omega, h3⟩, if_pos h4]
  · rw [e] at hn e1 e2 ⊢
    have := e1 (by simp)
    subst this
    have := e2 (by simp)
    subst this
    simp only at hn
    unfold decodeN
    rw [if_neg (by omega), if_neg (by omega), if_pos ⟨h1, ⟨by omega, h3⟩, by omega, h4⟩, if_pos ⟨h5, by omega⟩]
  · rw [e] at hn e1 e2 e3 ⊢
    have := e1 (by simp)
    subst this
    have := e2 (by simp)
    subst this
    have := e3 (by simp)
    subst this
    simp only at hn
    unfold decodeN
    rw [if_neg (by omega), if_neg (by omega), if_neg (by omega), if_pos ⟨h1, ⟨by omega, h3⟩, ⟨by omega, h4⟩, by omega, h5⟩, if_pos ⟨h6, by omega⟩]
  · exact absurd e hv
theorem getD_app (q m : T) {i : Nat} (h : i < q.length) : (q ++ m).getD i 0 = q.getD i 0 := by
  rw [List.getD_eq_getElem?_getD, List.getD_eq_getElem?_getD, List.getElem?_append_left h]
theorem getD_take (l : T) (k : Nat) {i : Nat} (h : i < k) : (l.take k).getD i 0 = l.getD i 0 := by
  rw [List.getD_eq_getElem?_getD, List.getD_eq_getElem?_getD, List.getElem?_take, if_pos h]
/-- the first character of a valid string: its bytes, whatever stands behind -/
theorem decode_front {l : T} (hl : l ≠ []) (hv : ¬ ((decodeL l).1 = 65533 ∧ (decodeL l).2 = 1)) (m : T) : decodeL (l.take (decodeL l).2 ++ m) = decodeL l := by
  have hk := Lib.decodeL_le l hl
  have hw := Lib.decodeL_width l
  generalize hd : decodeL l = d at *
  obtain ⟨c, k⟩ := d
  simp only at hk hw hv ⊢
  have hlen : (l.take k).length = k := by rw [List.length_take]; omega
  rw [Lib.decodeL_N] at hd
  have h0 : (l.take k ++ m).getD 0 0 = l.getD 0 0 := by rw [getD_app _ _ (by omega), getD_take _ _ (by omega)]
  rw [Lib.decodeL_N, h0, ← hd]
  refine decodeN_pre (fun e => hv ?_) ?_ ?_ ?_ ?_
  · rw [hd] at e; injection e with e1 e2; exact ⟨e1, e2⟩
  all_goals rw [hd]
  · simp; omega
  · intro h; simp only at h; rw [getD_app _ _ (by omega), getD_take _ _ (by omega)]
  · intro h; simp only at h; rw [getD_app _ _ (by omega), getD_take _ _ (by omega)]
  · intro h; simp only at h; rw [getD_app _ _ (by omega), getD_take _ _ (by omega)]
/-- a character: its bytes -/
def Chr (q : T) (c : Nat) : Prop := q ≠ [] ∧ (∀ m, decodeL (q ++ m) = (c, q.length)) ∧ ¬ (c = 65533 ∧ q.length = 1) ∧ ((∃ b : UInt8, q = [b] ∧ b.toNat = c ∧ c < 128) ∨ (128 ≤ c ∧ ∀ b ∈ q, 128 ≤ b.toNat))
theorem take_two {l : T} (h : 2 ≤ l.length) : l.take 2 = [l.getD 0 0, l.getD 1 0] := by
  match l, h with
  | a :: b :: l, _ => rfl
theorem take_three {l : T} (h : 3 ≤ l.length) : l.take 3 = [l.getD 0 0, l.getD 1 0, l.getD 2 0] := by
  match l, h with
  | a :: b :: c :: l, _ => rfl
theorem take_four {l : T} (h : 4 ≤ l.length) : l.take 4 = [l.getD 0 0, l.getD 1 0, l.getD 2 0, l.getD 3 0] := by
  match l, h with
  | a :: b :: c :: d :: l, _ => rfl
theorem take_one' {l : T} (h : 1 ≤ l.length) : l.take 1 = [l.getD 0 0] := by
  match l, h with
  | a :: l, _ => rfl
theorem chr_front {l : T} (hl : l ≠ []) (hv : ¬ ((decodeL l).1 = 65533 ∧ (decodeL l).2 = 1)) : Chr (l.take (decodeL l).2) (decodeL l).1 := by
  have hk := Lib.decodeL_le l hl
  have hw := Lib.decodeL_width l
  have hlen : (l.take (decodeL l).2).length = (decodeL l).2 := by rw [List.length_take]; omega
  refine ⟨fun e => ?_, fun m => ?_, ?_, ?_⟩
  · rw [e] at hlen; simp at hlen; omega
  · rw [decode_front hl hv, hlen]
  · rw [hlen]; exact hv
  · have hN := Lib.decodeL_N l
    rcases Lib.decodeN_shape l.length (l.getD 0 0).toNat (l.getD 1 0).toNat (l.getD 2 0).toNat (l.getD 3 0).toNat with ⟨c, e⟩ | ⟨h1, h2, h3, h4, e⟩ | ⟨h1, h2, h3, h4, h5, h6, e⟩ | ⟨h1, h2, h3, h4, h5, h6, h7, e⟩ | e
    · rw [e] at hN
      rw [hN]
      exact .inl ⟨l.getD 0 0, take_one' (by rw [hN] at hk; exact hk), rfl, c⟩
    · rw [e] at hN
      rw [hN] at hk ⊢
      refine .inr ⟨h4, ?_⟩
      simp only
      rw [take_two hk]
      intro b hb
      simp only [List.mem_cons, List.not_mem_nil, or_false] at hb
      rcases hb with rfl | rfl <;> omega
    · rw [e] at hN
      rw [hN] at hk ⊢
      refine .inr ⟨by simp only; omega, ?_⟩
      simp only
      rw [take_three hk]
      intro b hb
      simp only [List.mem_cons, List.not_mem_nil, or_false] at hb
      rcases hb with rfl | rfl | rfl <;> omega
    · rw [e] at hN
      rw [hN] at hk ⊢
      refine .inr ⟨by simp only; omega, ?_⟩
      simp only
      rw [take_four hk]
      intro b hb
      simp only [List.mem_cons, List.not_mem_nil, or_false] at hb
      rcases hb with rfl | rfl | rfl | rfl <;> omega
    · rw [e] at hN
      exact absurd ⟨by rw [hN], by rw [hN]⟩ hv
theorem valid_cons {q : T} {c : Nat} (h : Chr q c) (m : T) : validD (q ++ m) = validD m := by
  rw [Lib.validD_step _ (by simp [h.1]), h.2.1 m, if_neg h.2.2.1]
  simp
/-- a valid string is empty, or a character and a valid string -/
theorem valid_cases {l : T} (hv : validD l = true) (hl : l ≠ []) : ∃ q c t, l = q ++ t ∧ Chr q c ∧ validD t = true := by
  have hs := Lib.validD_step l hl
  rw [hv] at hs
  by_cases hb : (decodeL l).1 = 65533 ∧ (decodeL l).2 = 1
  · rw [if_pos hb] at hs; cases hs
  · rw [if_neg hb] at hs
    exact ⟨l.take (decodeL l).2, (decodeL l).1, l.drop (decodeL l).2, (List.take_append_drop _ _).symm, chr_front hl hb, hs.symm⟩
/-- induction over a valid string's characters -/
theorem valid_ind {P : T → Prop} (h0 : P []) (h1 : ∀ q c t, Chr q c → validD t = true → P t → P (q ++ t)) : ∀ l : T, validD l = true → P l := by
  intro l
  induction hn : l.length using Nat.strongRecOn generalizing l with
  | _ n ih =>
    intro hv
    by_cases hl : l = []
    · subst hl; exact h0
    · obtain ⟨q, c, t, rfl, hq, ht⟩ := valid_cases hv hl
      refine h1 q c t hq ht (ih t.length ?_ t rfl ht)
      have := List.length_pos_iff.2 hq.1
      rw [List.length_append] at hn
      omega
theorem validD_append {l m : T} (hl : validD l = true) : validD (l ++ m) = validD m := by
  refine valid_ind (P := fun l => validD (l ++ m) = validD m) rfl (fun q c t hq ht ih => ?_) l hl
  rw [List.append_assoc, valid_cons hq, ih]
def runL : Nat → T → List Nat
  | 0, _ => []
  | n + 1, l => if l = [] then [] else (decodeL l).1 :: runL n (l.drop (decodeL l).2)
theorem runL_nil : ∀ n, runL n [] = []
  | 0 => rfl
  | n + 1 => by simp [runL]
theorem runL_fuel : ∀ (n m : Nat) (l : T), l.length ≤ n → l.length ≤ m → runL n l = runL m l
  | 0, m, l, hn, _ => by
    have : l = [] := List.eq_nil_of_length_eq_zero (by omega)
    subst this
    rw [runL_nil, runL_nil]
  | n + 1, 0, l, _, hm => by
    have : l = [] := List.eq_nil_of_length_eq_zero (by omega)
    subst this
    rw [runL_nil, runL_nil]
  | n + 1, m + 1, l, hn, hm => by
    unfold runL
    by_cases hne : l = []
    · simp [hne]
    · have hw := Lib.decodeL_width l
      have hl : 0 < l.length := List.length_pos_iff.2 hne
      rw [if_neg hne, if_neg hne, runL_fuel n m (l.drop (decodeL l).2) (by rw [List.length_drop]; omega) (by rw [List.length_drop]; omega)]
def runesT (l : T) : List Nat := runL l.length l
theorem runesT_nil : runesT [] = [] := rfl
theorem runesT_step {l : T} (hl : l ≠ []) : runesT l = (decodeL l).1 :: runesT (l.drop (decodeL l).2) := by
  have hw := Lib.decodeL_width l
  have h0 : 0 < l.length := List.length_pos_iff.2 hl
  obtain ⟨n, hn⟩ : ∃ n, l.length = n + 1 := ⟨l.length - 1, by omega⟩
  unfold runesT
  rw [hn]
  show (if l = [] then [] else _) = _
  rw [if_neg hl, runL_fuel n (l.drop (decodeL l).2).length _ (by rw [List.length_drop]; omega) (Nat.le_refl _)]
theorem rnL_runL (s : ByteArray) : ∀ n i, s.size ≤ i + n → rnL s n i = runL n (s.data.toList.drop i)
  | 0, i, h => rfl
  | n + 1, i, h => by
    unfold rnL runL
    have hsz : s.data.toList.length = s.size := by rw [Array.length_toList]; rfl
    by_cases hi : i < s.size
    · rw [if_pos hi, if_neg (by intro e; have := congrArg List.length e; rw [List.length_drop, hsz] at this; simp at this; omega), Lib.decodeL_drop, List.drop_drop]
      have hw := Lib.decode_width_pos s i hi
      rw [rnL_runL s n _ (by omega)]
    · rw [if_neg hi, if_pos (List.drop_eq_nil_of_le (by omega))]
theorem runes_T (t : T) : runes (mkT t) = runesT t := by
  unfold runes runesT
  rw [rnL_runL (mkT t) _ 0 (by omega)]
  rfl
theorem runesT_chr {q : T} {c : Nat} (h : Chr q c) (m : T) : runesT (q ++ m) = c :: runesT m := by
  rw [runesT_step (by simp [h.1]), h.2.1 m]
  simp
theorem chr_enc {q : T} {c : Nat} (h : Chr q c) : encodeRune (c : Int) = q := by
  have := Lib.encode_decode (q ++ []) (by simp [h.1]) (by rw [h.2.1]; exact h.2.2.1)
  rw [h.2.1] at this
  simpa using this
/-- valid strings are known by their characters -/
theorem runesT_inj {l m : T} (hl : validD l = true) (hm : validD m = true) (h : runesT l = runesT m) : l = m := by
  have key : ∀ l : T, validD l = true → (runesT l).flatMap (fun c : Nat => encodeRune (c : Int)) = l := fun l hl => by
    refine valid_ind (P := fun l => (runesT l).flatMap (fun c : Nat => encodeRune (c : Int)) = l) rfl (fun q c t hq ht ih => ?_) l hl
    rw [runesT_chr hq, List.flatMap_cons, chr_enc hq, ih]
  rw [← key l hl, ← key m hm, h]
/-- escaped: signs behind backslashes -/
def special (b : UInt8) : Bool := b == 42 || b == 63 || b == 91 || b == 92
def escP : T → T
  | [] => []
  | b :: l => if special b = true then 92 :: b :: escP l else b :: escP l
theorem escP_append : ∀ l m, escP (l ++ m) = escP l ++ escP m
  | [], m => rfl
  | b :: l, m => by
    rw [List.cons_append, escP, escP, escP_append l m]
    split <;> rfl
theorem escP_high : ∀ q : T, (∀ b ∈ q, 128 ≤ b.toNat) → escP q = q
  | [], _ => rfl
  | b :: q, h => by
    have hb := h b (by simp)
    have h42 : b ≠ 42 := by rintro rfl; revert hb; decide
    have h63 : b ≠ 63 := by rintro rfl; revert hb; decide
    have h91 : b ≠ 91 := by rintro rfl; revert hb; decide
    have h92 : b ≠ 92 := by rintro rfl; revert hb; decide
    rw [escP, if_neg (by simp [special, h42, h63, h91, h92]), escP_high q (fun x hx => h x (by simp [hx]))]
theorem escP_nil {l : T} : escP l = [] ↔ l = [] := by
  cases l with
  | nil => simp [escP]
  | cons b l => rw [escP]; split <;> simp
theorem chr_ascii (b : UInt8) (h : b.toNat < 128) : Chr [b] b.toNat :=
  ⟨by simp, fun m => Lib.decodeL_ascii b m h, by rintro ⟨h1, _⟩; omega, .inl ⟨b, rfl, rfl, h⟩⟩
/-- escaping, a character at a time -/
theorem esc_chr {q : T} {c : Nat} (h : Chr q c) : (c ≠ 42 ∧ c ≠ 63 ∧ c ≠ 91 ∧ c ≠ 92 ∧ escP q = q) ∨ ((c = 42 ∨ c = 63 ∨ c = 91 ∨ c = 92) ∧ escP q = 92 :: q) := by
  rcases h.2.2.2 with ⟨b, rfl, hb, hc⟩ | ⟨hc, hh⟩
  · by_cases hs : special b = true
    · refine .inr ⟨?_, by rw [escP, if_pos hs]; rfl⟩
      simp only [special, Bool.or_eq_true, beq_iff_eq] at hs
      rcases hs with ((rfl | rfl) | rfl) | rfl
      · exact .inl hb.symm
      · exact .inr (.inl hb.symm)
      · exact .inr (.inr (.inl hb.symm))
      · exact .inr (.inr (.inr hb.symm))
    · refine .inl ⟨?_, ?_, ?_, ?_, by rw [escP, if_neg hs]; rfl⟩ <;>
        (rintro rfl; apply hs; simp [special, ← UInt8.toNat_inj, hb])
  · exact .inl ⟨by omega, by omega, by omega, by omega, escP_high q hh⟩
theorem esc_valid {l : T} (hl : validD l = true) : validD (escP l) = true := by
  refine valid_ind (P := fun l => validD (escP l) = true) rfl (fun q c t hq ht ih => ?_) l hl
  rw [escP_append]
  rcases esc_chr hq with ⟨_, _, _, _, e⟩ | ⟨_, e⟩
  · rw [e, valid_cons hq, ih]
  · rw [e, List.cons_append]
    have h92 := chr_ascii 92 (by decide)
    have := valid_cons h92 (q ++ escP t)
    rw [show ([92] : T) ++ (q ++ escP t) = 92 :: (q ++ escP t) from rfl] at this
    rw [this, valid_cons hq, ih]
def one (c : Nat) : El := (0, [(c, c)], false)
theorem esc_elems {l : T} (hl : validD l = true) : elemsP (runesT (escP l)) = some ((runesT l).map one) := by
  refine valid_ind (P := fun l => elemsP (runesT (escP l)) = some ((runesT l).map one)) rfl (fun q c t hq ht ih => ?_) l hl
  rw [escP_append, runesT_chr hq]
  rcases esc_chr hq with ⟨h1, h2, h3, h4, e⟩ | ⟨_, e⟩
  · rw [e, runesT_chr hq, elemsP_cons]
    have : elemP c (runesT (escP t)) = some (one c, runesT (escP t)) := by
      unfold elemP
      rw [if_neg h1, if_neg h2, if_neg h4, if_neg h3]
      rfl
    rw [this]
    simp only [ih]
    rfl
  · have h92 := chr_ascii 92 (by decide)
    have hr : runesT (92 :: q ++ escP t) = 92 :: c :: runesT (escP t) := by
      have := runesT_chr h92 (q ++ escP t)
      rw [runesT_chr hq] at this
      exact this
    rw [e, hr, elemsP_cons]
    have : elemP 92 (c :: runesT (escP t)) = some (one c, runesT (escP t)) := rfl
    rw [this]
    simp only [ih]
    rfl
theorem spl_esc : ∀ l : T, spl (escP l) = (spl l).map escP
  | [] => rfl
  | c :: l => by
    have ih := spl_esc l
    by_cases hc : c = 47
    · subst hc
      rw [escP, if_neg (by decide), spl, if_pos rfl, spl, if_pos rfl, ih]
      rfl
    · obtain ⟨a, t, h1, h2⟩ := spl_cons_other hc l
      rw [h1] at ih
      rw [h2, List.map_cons, escP]
      by_cases hs : special c = true
      · rw [if_pos hs]
        obtain ⟨a', t', h3, h4⟩ := spl_cons_other hc (escP l)
        obtain ⟨a2, t2, h5, h6⟩ := spl_cons_other (show (92 : UInt8) ≠ 47 by decide) (c :: escP l)
        rw [h4] at h5
        injection h5 with h5 h7
        rw [h6, ← h5, ← h7]
        rw [h3] at ih
        injection ih with i1 i2
        rw [i1, i2, escP, if_pos hs]
      · rw [if_neg hs]
        obtain ⟨a', t', h3, h4⟩ := spl_cons_other hc (escP l)
        rw [h3] at ih
        injection ih with i1 i2
        rw [h4, i1, i2, escP, if_neg hs]
end Plain
end Go.Proofs.YtokckcmkbnhhhaaDoor
