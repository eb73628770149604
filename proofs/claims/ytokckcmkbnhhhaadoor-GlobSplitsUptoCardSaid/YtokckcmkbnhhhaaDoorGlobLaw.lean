/- The laws of patterns, in plain words. -/
import Derived.Test.YtokckcmkbnhhhaaDoorGlobUtf
namespace Go.Proofs.YtokckcmkbnhhhaaDoor
namespace Plain
open Lib (decodeN decodeL validD encodeRune)
set_option linter.unusedVariables false
set_option linter.unusedSimpArgs false
theorem stepD_iff (any : Bool) (m now : Nat → Bool) : ∀ K, stepD any m now K = true ↔ (any = true ∧ ∃ j, j ≤ K ∧ now j = true) ∨ (any = false ∧ ∃ j, K = j + 1 ∧ now j = true ∧ m j = true)
  | 0 => by
    simp only [stepD, Bool.and_eq_true]
    constructor
    · rintro ⟨h1, h2⟩; exact .inl ⟨h1, 0, Nat.le_refl _, h2⟩
    · rintro (⟨h1, j, hj, h2⟩ | ⟨h1, j, hj, _⟩)
      · obtain rfl : j = 0 := by omega
        exact ⟨h1, h2⟩
      · omega
  | K + 1 => by
    have ih := stepD_iff any m now K
    cases any with
    | true =>
      simp only [stepD, if_true, Bool.or_eq_true, ih, true_and]
      constructor
      · rintro (h | h | h)
        · exact .inl ⟨K + 1, Nat.le_refl _, h⟩
        · obtain ⟨j, hj, h⟩ := h
          exact .inl ⟨j, by omega, h⟩
        · exact absurd h.1 (by decide)
      · rintro (⟨j, hj, h⟩ | h)
        · by_cases e : j = K + 1
          · subst e; exact .inl h
          · exact .inr (.inl ⟨j, by omega, h⟩)
        · exact absurd h.1 (by decide)
    | false =>
      simp only [stepD, Bool.false_eq_true, if_false, Bool.and_eq_true, false_and, false_or, true_and]
      constructor
      · rintro ⟨h1, h2⟩; exact ⟨K, rfl, h1, h2⟩
      · rintro ⟨j, hj, h1, h2⟩
        obtain rfl : j = K := by omega
        exact ⟨h1, h2⟩
theorem seqD_split (A : Nat → Bool) (M : Nat → Nat → Bool) (n1 : Nat) : ∀ n K, seqD A M (n1 + n) K = true ↔ ∃ k, k ≤ K ∧ seqD A M n1 k = true ∧ seqD (fun i => A (n1 + i)) (fun i j => M (n1 + i) (k + j)) n (K - k) = true
  | 0, K => by
    simp only [Nat.add_zero, seqD, decide_eq_true_eq]
    constructor
    · intro h; exact ⟨K, Nat.le_refl _, h, by omega⟩
    · rintro ⟨k, hk, h, e⟩
      obtain rfl : k = K := by omega
      exact h
  | n + 1, K => by
    have ih := seqD_split A M n1 n
    show seqD A M (n1 + n + 1) K = true ↔ _
    simp only [seqD]
    rw [stepD_iff]
    simp only [stepD_iff]
    constructor
    · rintro (⟨ha, j, hj, h⟩ | ⟨ha, j, hj, h, hm⟩)
      · obtain ⟨k, hk, h1, h2⟩ := (ih j).1 h
        exact ⟨k, by omega, h1, .inl ⟨ha, j - k, by omega, h2⟩⟩
      · obtain ⟨k, hk, h1, h2⟩ := (ih j).1 h
        refine ⟨k, by omega, h1, .inr ⟨ha, j - k, by omega, h2, ?_⟩⟩
        rw [show k + (j - k) = j by omega]
        exact hm
    · rintro ⟨k, hk, h1, (⟨ha, j, hj, h⟩ | ⟨ha, j, hj, h, hm⟩)⟩
      · refine .inl ⟨ha, k + j, by omega, (ih _).2 ⟨k, by omega, h1, ?_⟩⟩
        rw [show k + j - k = j by omega]
        exact h
      · refine .inr ⟨ha, k + j, by omega, (ih _).2 ⟨k, by omega, h1, ?_⟩, hm⟩
        rw [show k + j - k = j by omega]
        exact h
theorem seqD_none (A : Nat → Bool) (M : Nat → Nat → Bool) : ∀ n K, (∀ i, i < n → A i = false) → (seqD A M n K = true ↔ K = n ∧ ∀ i, i < n → M i i = true)
  | 0, K, _ => by simp [seqD]
  | n + 1, K, h => by
    simp only [seqD]
    rw [stepD_iff]
    have ha := h n (by omega)
    simp only [ha, Bool.false_eq_true, false_and, false_or, true_and]
    constructor
    · rintro ⟨j, rfl, h1, h2⟩
      obtain ⟨rfl, h3⟩ := (seqD_none A M n j (fun i hi => h i (by omega))).1 h1
      refine ⟨rfl, fun i hi => ?_⟩
      by_cases e : i = j
      · subst e; exact h2
      · exact h3 i (by omega)
    · rintro ⟨rfl, h1⟩
      exact ⟨n, rfl, (seqD_none A M n n (fun i hi => h i (by omega))).2 ⟨rfl, fun i hi => h1 i (by omega)⟩, h1 n (by omega)⟩
theorem elMatch_one (c d : Nat) : elMatch (one c) d = decide (c = d) := by
  unfold elMatch one
  simp only [List.any_cons, List.any_nil, Bool.or_false, Bool.bne_false]
  rw [if_neg (by decide), ← Bool.decide_and]
  exact decide_eq_decide.2 ⟨fun h => by omega, fun h => by omega⟩
theorem nameP_one (cs ds : List Nat) : nameP (cs.map one) ds = true ↔ cs = ds := by
  unfold nameP
  have hg : ∀ i, i < cs.length → elG (cs.map one) i = one (cs.getD i 0) := fun i hi => by
    unfold elG
    rw [List.getD_eq_getElem?_getD, List.getElem?_map, List.getD_eq_getElem?_getD, List.getElem?_eq_getElem hi]
    rfl
  rw [seqD_none _ _ _ _ (fun i hi => by rw [List.length_map] at hi; rw [hg i hi]; rfl), List.length_map]
  constructor
  · rintro ⟨h1, h2⟩
    apply List.ext_getElem h1.symm
    intro i hi hj
    have := h2 i hi
    rw [hg i hi, elMatch_one, decide_eq_true_eq, List.getD_eq_getElem?_getD, List.getD_eq_getElem?_getD, List.getElem?_eq_getElem hi, List.getElem?_eq_getElem hj] at this
    exact this
  · rintro rfl
    exact ⟨rfl, fun i hi => by rw [hg i hi, elMatch_one, decide_eq_true_eq]⟩
theorem ck_valid {a : T} (h : ck a = 0) : validD a = true := by
  unfold ck chkB at h
  split at h
  · cases h
  · rename_i hno
    cases hv : validD a with
    | true => rfl
    | false => exact absurd (.inr (.inr (.inr hv))) hno
theorem jn_valid : ∀ l : List T, (∀ a ∈ l, validD a = true) → validD (jn l) = true
  | [], _ => rfl
  | [a], h => h a (by simp)
  | a :: b :: l, h => by
    rw [jn_cons a (by simp), validD_append (h a (by simp)), Lib.validD_cons 47 _ (by decide)]
    exact jn_valid (b :: l) (fun x hx => h x (by simp [hx]))
def oneP (a : T) : Pt := (false, (runesT a).map one)
theorem part_esc {a : T} (ha : a ≠ []) (hv : validD a = true) : partP (escP a) = some (oneP a) := by
  unfold partP
  rw [if_neg (fun e => ha (escP_nil.1 e)), runes_T, esc_elems hv]
  have : escP a ≠ [42, 42] := by
    intro e
    cases a with
    | nil => exact ha rfl
    | cons b l =>
      rw [escP] at e
      by_cases hs : special b = true
      · rw [if_pos hs] at e; injection e with e _; revert e; decide
      · rw [if_neg hs] at e
        injection e with e _
        subst e
        exact hs rfl
  rw [decide_eq_false this]
  rfl
theorem parts_esc : ∀ l : List T, (∀ a ∈ l, a ≠ [] ∧ validD a = true) → partsP (l.map escP) = some (l.map oneP)
  | [], _ => rfl
  | a :: l, h => by
    rw [List.map_cons, partsP, part_esc (h a (by simp)).1 (h a (by simp)).2]
    simp only
    rw [parts_esc l (fun x hx => h x (by simp [hx]))]
    rfl
theorem path_one (l s : List T) (hl : ∀ a ∈ l, validD a = true) (hs : ∀ a ∈ s, validD a = true) : pathP (l.map oneP) s = true ↔ l = s := by
  unfold pathP
  have hg : ∀ i, i < l.length → ptG (l.map oneP) i = oneP (l.getD i []) := fun i hi => by
    unfold ptG
    rw [List.getD_eq_getElem?_getD, List.getElem?_map, List.getD_eq_getElem?_getD, List.getElem?_eq_getElem hi]
    rfl
  rw [seqD_none _ _ _ _ (fun i hi => by rw [List.length_map] at hi; rw [hg i hi]; rfl), List.length_map]
  constructor
  · rintro ⟨h1, h2⟩
    apply List.ext_getElem h1.symm
    intro i hi hj
    have := h2 i hi
    rw [hg i hi, runes_T] at this
    have := (nameP_one _ _).1 this
    rw [List.getD_eq_getElem?_getD, List.getD_eq_getElem?_getD, List.getElem?_eq_getElem hi, List.getElem?_eq_getElem hj] at this
    exact runesT_inj (hl _ (List.getElem_mem hi)) (hs _ (List.getElem_mem hj)) this
  · rintro rfl
    exact ⟨rfl, fun i hi => by rw [hg i hi, runes_T]; exact (nameP_one _ _).2 rfl⟩
theorem fits_iff (p q : T) : fitsP p q = true ↔ (parseP p).2 = 0 ∧ (splP ck q).2 = 0 ∧ pathP (parseP p).1 (splP ck q).1 = true := by
  unfold fitsP matchP
  by_cases h1 : (parseP p).2 = 0
  · by_cases h2 : (splP ck q).2 = 0
    · simp [h1, h2]
    · simp [h1, h2]
  · simp [h1]
theorem names_valid {q : T} (h : (splP ck q).2 = 0) : ∀ a ∈ (splP ck q).1, a ≠ [] ∧ validD a = true := fun a ha => by
  have := ((chkAll_ok ck _ _).1 (splP_chk h)).2 a ha
  exact ⟨(ck_ok a this).2.1, ck_valid this⟩
theorem parse_esc {q : T} (h : (splP ck q).2 = 0) (hn : (splP ck q).1 ≠ []) (h60 : (escP q).length ≤ 60) : parseP (escP q) = ((splP ck q).1.map oneP, 0) := by
  have hv := names_valid h
  obtain ⟨rest, rfl, ⟨_, e⟩ | ⟨hr, hc, e⟩⟩ := splP_ok h
  · exact absurd e hn
  · rw [e] at hv ⊢
    have he : escP (47 :: rest) = 47 :: escP rest := by rw [escP, if_neg (by decide)]
    rw [he] at h60 ⊢
    refine parseP_of (by simp at h60; omega) ?_ (by rw [spl_esc, parts_esc _ hv])
    rw [Lib.validD_cons 47 _ (by decide), esc_valid]
    rw [← jn_spl rest]
    exact jn_valid _ (fun a ha => (hv a ha).2)
theorem plain_other {q o : T} (h : (splP ck q).2 = 0) (hn : (splP ck q).1 ≠ []) (h60 : (escP q).length ≤ 60) (ho : (splP ck o).2 = 0) : fitsP (escP q) o = decide (q = o) := by
  rw [Bool.eq_iff_iff, decide_eq_true_eq, fits_iff, parse_esc h hn h60, path_one _ _ (fun a ha => (names_valid h a ha).2) (fun a ha => (names_valid ho a ha).2)]
  constructor
  · rintro ⟨_, _, e⟩
    rw [← splP_jn h, ← splP_jn ho, e]
  · rintro rfl
    exact ⟨rfl, ho, rfl⟩
theorem plain_self {q : T} (h : (splP ck q).2 = 0) (hn : (splP ck q).1 ≠ []) (h60 : (escP q).length ≤ 60) : fitsP (escP q) q = true := by
  rw [plain_other h hn h60 h]; simp
/-- two patterns one behind the other -/
theorem path_append (L1 L2 : List Pt) (s : List T) : pathP (L1 ++ L2) s = true ↔ ∃ k, k ≤ s.length ∧ pathP L1 (s.take k) = true ∧ pathP L2 (s.drop k) = true := by
  unfold pathP
  rw [List.length_append, seqD_split]
  have key : ∀ k, k ≤ s.length → ((seqD (fun i => (ptG (L1 ++ L2) i).1) (fun i k => nameP (ptG (L1 ++ L2) i).2 (runes (mkT (s.getD k [])))) L1.length k = seqD (fun i => (ptG L1 i).1) (fun i j => nameP (ptG L1 i).2 (runes (mkT ((s.take k).getD j [])))) L1.length (s.take k).length) ∧
      (seqD (fun i => (ptG (L1 ++ L2) (L1.length + i)).1) (fun i j => nameP (ptG (L1 ++ L2) (L1.length + i)).2 (runes (mkT (s.getD (k + j) [])))) L2.length (s.length - k) = seqD (fun i => (ptG L2 i).1) (fun i j => nameP (ptG L2 i).2 (runes (mkT ((s.drop k).getD j [])))) L2.length (s.drop k).length)) := fun k hk => by
    have h1 : (s.take k).length = k := by rw [List.length_take]; omega
    have h2 : (s.drop k).length = s.length - k := by rw [List.length_drop]
    have g1 : ∀ i, i < L1.length → ptG (L1 ++ L2) i = ptG L1 i := fun i hi => by
      unfold ptG; rw [List.getD_eq_getElem?_getD, List.getD_eq_getElem?_getD, List.getElem?_append_left hi]
    have g2 : ∀ i, ptG (L1 ++ L2) (L1.length + i) = ptG L2 i := fun i => by
      unfold ptG; rw [List.getD_eq_getElem?_getD, List.getD_eq_getElem?_getD, List.getElem?_append_right (by omega), show L1.length + i - L1.length = i by omega]
    refine ⟨?_, ?_⟩
    · rw [h1]
      refine seqD_congr (K := k) _ (fun i hi => by rw [g1 i hi]) (fun i j hi hj => ?_) k (Nat.le_refl _)
      rw [g1 i hi, List.getD_eq_getElem?_getD, List.getD_eq_getElem?_getD, List.getElem?_take, if_pos hj]
    · rw [h2]
      refine seqD_congr (K := s.length - k) _ (fun i hi => by rw [g2 i]) (fun i j hi hj => ?_) _ (Nat.le_refl _)
      rw [g2 i, List.getD_eq_getElem?_getD, List.getD_eq_getElem?_getD, List.getElem?_drop]
  constructor
  · rintro ⟨k, hk, h1, h2⟩
    rw [(key k hk).1] at h1
    rw [(key k hk).2] at h2
    exact ⟨k, hk, h1, h2⟩
  · rintro ⟨k, hk, h1, h2⟩
    rw [← (key k hk).1] at h1
    rw [← (key k hk).2] at h2
    exact ⟨k, hk, h1, h2⟩
theorem parse_append {p q : T} (hp : (parseP p).2 = 0) (hq : (parseP q).2 = 0) (h60 : p.length + q.length ≤ 60) : parseP (p ++ q) = ((parseP p).1 ++ (parseP q).1, 0) := by
  obtain ⟨_, r1, e1, v1, s1⟩ := parseP_ok hp
  obtain ⟨_, r2, e2, v2, s2⟩ := parseP_ok hq
  generalize (parseP p).1 = L1 at *
  generalize (parseP q).1 = L2 at *
  subst e1
  subst e2
  rw [List.cons_append]
  refine parseP_of (by simp at h60 ⊢; omega) ?_ ?_
  · rw [← List.cons_append, validD_append v1, v2]
  · rw [spl_append, partsP_append, s1, s2]
def someN (p q : T) (l : List T) : Nat → Bool
  | 0 => false
  | n + 1 => someN p q l n || (fitsP p (joinP ck (l.take n)).1 && fitsP q (joinP ck (l.drop n)).1)
theorem someN_iff (p q : T) (l : List T) : ∀ n, someN p q l n = true ↔ ∃ k, k < n ∧ fitsP p (joinP ck (l.take k)).1 = true ∧ fitsP q (joinP ck (l.drop k)).1 = true
  | 0 => by simp [someN]
  | n + 1 => by
    simp only [someN, Bool.or_eq_true, Bool.and_eq_true, someN_iff p q l n]
    constructor
    · rintro (⟨k, hk, h⟩ | h)
      · exact ⟨k, by omega, h⟩
      · exact ⟨n, by omega, h⟩
    · rintro ⟨k, hk, h⟩
      by_cases e : k = n
      · subst e; exact .inr h
      · exact .inl ⟨k, by omega, h⟩
theorem splits {p q s : T} (hp : (parseP p).2 = 0) (hq : (parseP q).2 = 0) (h60 : p.length + q.length ≤ 60) (hs : (splP ck s).2 = 0) : fitsP (p ++ q) s = someN p q (splP ck s).1 ((splP ck s).1.length + 1) := by
  rw [Bool.eq_iff_iff, fits_iff, parse_append hp hq h60, someN_iff]
  have hc := (chkAll_ok ck _ _).1 (splP_chk hs)
  generalize (splP ck s).1 = l at *
  have hsub : ∀ m : List T, (∀ a ∈ m, a ∈ l) → m.length ≤ l.length → (fitsP p (joinP ck m).1 = true ↔ pathP (parseP p).1 m = true) := fun m h1 h2 => by
    have hck : chkAll ck m 0 = 0 := (chkAll_ok ck _ _).2 ⟨by
      rcases hc.1 with h | h
      · rw [h] at h2; exact .inl (List.eq_nil_of_length_eq_zero (by simpa using h2))
      · exact .inr (by omega), fun a ha => hc.2 a (h1 a ha)⟩
    unfold joinP
    rw [if_pos hck, fits_iff, back_join ck_ok hck]
    simp [hp]
  have hsub2 : ∀ m : List T, (∀ a ∈ m, a ∈ l) → m.length ≤ l.length → (fitsP q (joinP ck m).1 = true ↔ pathP (parseP q).1 m = true) := fun m h1 h2 => by
    have hck : chkAll ck m 0 = 0 := (chkAll_ok ck _ _).2 ⟨by
      rcases hc.1 with h | h
      · rw [h] at h2; exact .inl (List.eq_nil_of_length_eq_zero (by simpa using h2))
      · exact .inr (by omega), fun a ha => hc.2 a (h1 a ha)⟩
    unfold joinP
    rw [if_pos hck, fits_iff, back_join ck_ok hck]
    simp [hq]
  simp only [hs, true_and]
  rw [path_append]
  constructor
  · rintro ⟨k, hk, h1, h2⟩
    exact ⟨k, by omega, (hsub _ (fun a ha => List.mem_of_mem_take ha) (by rw [List.length_take]; omega)).2 h1, (hsub2 _ (fun a ha => List.mem_of_mem_drop ha) (by rw [List.length_drop]; omega)).2 h2⟩
  · rintro ⟨k, hk, h1, h2⟩
    exact ⟨k, by omega, (hsub _ (fun a ha => List.mem_of_mem_take ha) (by rw [List.length_take]; omega)).1 h1, (hsub2 _ (fun a ha => List.mem_of_mem_drop ha) (by rw [List.length_drop]; omega)).1 h2⟩
/-- rules -/
theorem skips_bad {rules : List T} {p : T} (h : (skipsP rules p).2 ≠ 0) : (skipsP rules p).1 = false := by
  unfold skipsP at h ⊢
  split
  · rfl
  · rename_i h1
    rw [if_neg h1] at h
    split
    · rfl
    · rename_i h2
      rw [if_neg h2] at h
      split
      · rfl
      · rename_i h3
        rw [if_neg h3] at h
        exact absurd rfl h
theorem skips_root (rules : List T) : (skipsP rules [47]).1 = false := by
  unfold skipsP
  split
  · rfl
  · split
    · rfl
    · split
      · rfl
      · rfl
theorem anyN_prefix (rules : List T) (P : List (List Pt)) (s t : List T) : ∀ n, n ≤ s.length → anyN rules P (s ++ t) n = anyN rules P s n
  | 0, _ => rfl
  | n + 1, h => by
    rw [anyN, anyN, anyN_prefix rules P s t n (by omega), List.take_append_of_le_length h]
theorem anyN_mono (rules : List T) (P : List (List Pt)) (s : List T) {m : Nat} (h : anyN rules P s m = true) : ∀ n, m ≤ n → anyN rules P s n = true
  | 0, hn => by
    have e : m = 0 := by omega
    subst e
    exact h
  | n + 1, hn => by
    by_cases e : m = n + 1
    · subst e; exact h
    · rw [anyN, anyN_mono rules P s h n (by omega)]; rfl
theorem beneath {rules : List T} {p : T} (name : T) (h0 : (skipsP rules p).2 = 0) (h1 : (skipsP rules p).1 = true) (h2 : (skipsP rules (p ++ 47 :: name)).2 = 0) : (skipsP rules (p ++ 47 :: name)).1 = true := by
  unfold skipsP at h0 h1 h2 ⊢
  by_cases c1 : 20 < rules.length
  · rw [if_pos c1] at h1; cases h1
  rw [if_neg c1] at h0 h1 h2 ⊢
  by_cases c2 : (rulesP rules).2 ≠ 0
  · rw [if_pos c2] at h1; cases h1
  rw [if_neg c2] at h0 h1 h2 ⊢
  by_cases c3 : (splP ck p).2 ≠ 0
  · rw [if_pos c3] at h1; cases h1
  rw [if_neg c3] at h0 h1
  by_cases c4 : (splP ck (p ++ 47 :: name)).2 ≠ 0
  · rw [if_pos c4] at h2; exact absurd h2 c4
  rw [if_neg c4] at h2 ⊢
  simp only at h1 ⊢
  obtain ⟨rest, rfl, ⟨hr, e⟩ | ⟨hr, hc, e⟩⟩ := splP_ok (Classical.not_not.1 c3)
  · rw [e] at h1; cases h1
  · obtain ⟨rest2, e2, ⟨hr2, e3⟩ | ⟨hr2, hc2, e3⟩⟩ := splP_ok (Classical.not_not.1 c4)
    · rw [List.cons_append] at e2
      injection e2 with _ e2
      rw [hr2] at e2
      simp at e2
    · rw [List.cons_append] at e2
      injection e2 with _ e2
      rw [e3, ← e2, spl_append]
      rw [e] at h1
      refine anyN_mono _ _ _ (m := (spl rest).length) ?_ _ (by rw [List.length_append]; omega)
      rw [anyN_prefix _ _ _ _ _ (Nat.le_refl _)]
      exact h1
theorem rulesP_len : ∀ {l : List T}, (rulesP l).2 = 0 → (rulesP l).1.length = l.length
  | [], _ => rfl
  | r :: l, h => by
    unfold rulesP at h ⊢
    by_cases c1 : (parseP (ruleT r)).2 ≠ 0
    · rw [if_pos c1] at h; exact absurd h c1
    · rw [if_neg c1] at h ⊢
      by_cases c2 : (rulesP l).2 ≠ 0
      · rw [if_pos c2] at h; exact absurd h c2
      · rw [if_neg c2]
        simp [rulesP_len (Classical.not_not.1 c2)]
theorem rulesP_snoc (r : T) (hr : (parseP (ruleT r)).2 = 0) : ∀ l : List T, rulesP (l ++ [r]) = if (rulesP l).2 ≠ 0 then ([], (rulesP l).2) else ((rulesP l).1 ++ [(parseP (ruleT r)).1], 0)
  | [] => by
    rw [List.nil_append, rulesP, if_neg (by simp [hr])]
    simp [rulesP, hr]
  | x :: l => by
    have ih := rulesP_snoc r hr l
    rw [List.cons_append, rulesP, rulesP]
    by_cases c1 : (parseP (ruleT x)).2 ≠ 0
    · rw [if_pos c1, if_pos c1, if_pos c1]
    · rw [if_neg c1, if_neg c1, ih]
      by_cases c2 : (rulesP l).2 ≠ 0
      · rw [if_pos c2, if_pos c2, if_pos c2, if_pos c2]
      · rw [if_neg c2, if_neg c2, if_neg (by simp), if_neg (by simp)]
        simp
def starL : List Pt := (parseP [47, 42, 42]).1
instance : DecidableEq Sp := inferInstanceAs (DecidableEq (Nat × Nat))
instance : DecidableEq El := inferInstanceAs (DecidableEq (Nat × List Sp × Bool))
instance : DecidableEq Pt := inferInstanceAs (DecidableEq (Bool × List El))
theorem star_ok : parseP [47, 42, 42] = ([(true, [(2, [], false), (2, [], false)])], 0) := by decide +kernel
theorem star_path (E : List El) (s : List T) : pathP [(true, E)] s = true := by
  unfold pathP
  show seqD _ _ (0 + 1) s.length = true
  simp only [seqD]
  exact (stepD_iff _ _ _ _).2 (.inl ⟨rfl, 0, Nat.zero_le _, rfl⟩)
theorem outN_last (rules : List T) (r : T) (P : List (List Pt)) (hP : P.length = rules.length) (L : List Pt) (s : List T) (hL : pathP L s = true) : outN (rules ++ [r]) (P ++ [L]) s (rules ++ [r]).length = !ruleB r := by
  have e1 : (P ++ [L]).getD rules.length [] = L := by
    rw [List.getD_eq_getElem?_getD, ← hP, List.getElem?_append_right (Nat.le_refl _)]; simp
  have e2 : (rules ++ [r]).getD rules.length [] = r := by
    rw [List.getD_eq_getElem?_getD, List.getElem?_append_right (Nat.le_refl _)]; simp
  rw [List.length_append, List.length_singleton, outN, e1, e2, if_pos hL]
/-- behind a last rule that is met by all -/
theorem last_rule (rules : List T) (r p : T) (hr : parseP (ruleT r) = ([(true, [(2, [], false), (2, [], false)])], 0)) : skipsP (rules ++ [r]) p = if 20 < rules.length + 1 then (false, 2) else if (rulesP rules).2 ≠ 0 then (false, (rulesP rules).2) else if (splP ck p).2 ≠ 0 then (false, (splP ck p).2) else (!ruleB r && decide ((splP ck p).1 ≠ []), 0) := by
  unfold skipsP
  rw [List.length_append, List.length_singleton]
  by_cases c1 : 20 < rules.length + 1
  · rw [if_pos c1, if_pos c1]
  · rw [if_neg c1, if_neg c1, rulesP_snoc r (by rw [hr])]
    by_cases c2 : (rulesP rules).2 ≠ 0
    · rw [if_pos c2, if_pos c2, if_pos c2]
    · rw [if_neg c2, if_neg c2, if_neg (by simp)]
      by_cases c3 : (splP ck p).2 ≠ 0
      · rw [if_pos c3, if_pos c3]
      · rw [if_neg c3, if_neg c3]
        refine Prod.ext ?_ rfl
        simp only
        rw [hr]
        have ho : ∀ s, outN (rules ++ [r]) ((rulesP rules).1 ++ [[(true, [(2, [], false), (2, [], false)])]]) s (rules ++ [r]).length = !ruleB r := fun s => outN_last _ _ _ (rulesP_len (Classical.not_not.1 c2)) _ _ (star_path _ _)
        generalize (splP ck p).1 = S
        have hn : ∀ n, anyN (rules ++ [r]) ((rulesP rules).1 ++ [[(true, [(2, [], false), (2, [], false)])]]) S n = (!ruleB r && decide (n ≠ 0)) := fun n => by
          induction n with
          | zero => simp [anyN]
          | succ n ih =>
            rw [anyN, ih, ho]
            cases ruleB r <;> simp
        rw [hn]
        cases S <;> simp
theorem root_iff {p : T} (h : (splP ck p).2 = 0) : (splP ck p).1 = [] ↔ p = [47] := by
  obtain ⟨rest, rfl, ⟨hr, e⟩ | ⟨hr, hc, e⟩⟩ := splP_ok h
  · subst hr; exact ⟨fun _ => rfl, fun _ => e⟩
  · rw [e]
    constructor
    · intro h; exact absurd h (spl_ne rest)
    · intro h; injection h with _ h; exact absurd h hr
end Plain
end Go.Proofs.YtokckcmkbnhhhaaDoor
