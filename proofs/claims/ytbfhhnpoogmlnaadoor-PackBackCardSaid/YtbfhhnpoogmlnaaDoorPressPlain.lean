/- Plain law of the compressed form: lengths, bits, symbols, and the whole; what was written in codes is read back. -/
import Derived.Test.YtbfhhnpoogmlnaaDoorHuffPlain
import Derived.Test.YtbfhhnpoogmlnaaDoorBase2
namespace Go.Proofs.YtbfhhnpoogmlnaaDoor
namespace Plain
/-- the low k bits of a number, the greatest first -/
def bitsL (n : Nat) : Nat → List Nat
  | 0 => []
  | k + 1 => n / 2 ^ k % 2 :: bitsL n k
theorem bitsL_length (n : Nat) : ∀ k, (bitsL n k).length = k
  | 0 => rfl
  | k + 1 => by rw [bitsL, List.length_cons, bitsL_length n k]
/-- the bits that a reader has still to read -/
def strm : List Nat → Nat → List Nat
  | [], _ => []
  | b :: t, k => bitsL b k ++ t.flatMap (bitsL · 8)
theorem strm_zero (b : Nat) (t : List Nat) : strm (b :: t) 0 = strm t 8 := by
  cases t <;> simp [strm, bitsL]
theorem strm_succ (b k : Nat) (t : List Nat) : strm (b :: t) (k + 1) = (b / 2 ^ k % 2) :: strm (b :: t) k := rfl
theorem strm_flat (s : List Nat) : strm s 8 = s.flatMap (bitsL · 8) := by cases s <;> simp [strm]
/-- the lengths of so many bytes -/
def lnP : Nat → Int → List Int → List Nat → Nat × List Int × List Nat
  | 0, _, out, s => (0, out, s)
  | m + 1, last, out, s => if s.length < 2 then (3, [], []) else if (s.getD 0 0 : Int) ≤ last ∨ s.getD 1 0 < 1 ∨ 48 < s.getD 1 0 then (4, [], []) else lnP m (s.getD 0 0 : Nat) (out.set (s.getD 0 0) (s.getD 1 0 : Nat)) (s.drop 2)
theorem lnP_zero (last : Int) (out : List Int) (s : List Nat) : lnP 0 last out s = (0, out, s) := rfl
theorem lnP_short {m : Nat} {last : Int} {out : List Int} {s : List Nat} (h : s.length < 2) : lnP (m + 1) last out s = (3, [], []) := by rw [lnP, if_pos h]
theorem lnP_form {m : Nat} {last : Int} {out : List Int} {s : List Nat} (h : ¬ s.length < 2) (h1 : (s.getD 0 0 : Int) ≤ last ∨ s.getD 1 0 < 1 ∨ 48 < s.getD 1 0) : lnP (m + 1) last out s = (4, [], []) := by rw [lnP, if_neg h, if_pos h1]
theorem lnP_more {m : Nat} {last : Int} {out : List Int} {s : List Nat} (h : ¬ s.length < 2) (h1 : ¬ ((s.getD 0 0 : Int) ≤ last ∨ s.getD 1 0 < 1 ∨ 48 < s.getD 1 0)) : lnP (m + 1) last out s = lnP m (s.getD 0 0 : Nat) (out.set (s.getD 0 0) (s.getD 1 0 : Nat)) (s.drop 2) := by rw [lnP, if_neg h, if_neg h1]
abbrev CE := (Nat × Nat) × Nat
/-- a map of codes asked -/
def lk (es : List CE) (k : Nat × Nat) : Option Nat := (es.find? (fun e => e.1 == k)).map (·.2)
def syP (es : List CE) : Nat → Nat → Nat → List Nat → Nat × Nat × List Nat
  | 0, _, _, bs => (4, 0, bs)
  | _ + 1, _, _, [] => (3, 0, [])
  | f + 1, c, n, b :: bs => match lk es (2 * c + b, n + 1) with
    | some x => (0, x, bs)
    | none => syP es f (2 * c + b) (n + 1) bs
theorem syP_end (es : List CE) (c n : Nat) (bs : List Nat) : syP es 0 c n bs = (4, 0, bs) := by rw [syP]
theorem syP_short (es : List CE) (f c n : Nat) : syP es (f + 1) c n [] = (3, 0, []) := by rw [syP]
theorem syP_hit {es : List CE} {f c n b : Nat} {bs : List Nat} {x : Nat} (h : lk es (2 * c + b, n + 1) = some x) : syP es (f + 1) c n (b :: bs) = (0, x, bs) := by rw [syP, h]
theorem syP_miss {es : List CE} {f c n b : Nat} {bs : List Nat} (h : lk es (2 * c + b, n + 1) = none) : syP es (f + 1) c n (b :: bs) = syP es f (2 * c + b) (n + 1) bs := by rw [syP, h]
/-- so many symbols -/
def sysP (es : List CE) : Nat → List Nat → Nat × List Nat × List Nat
  | 0, bs => (0, [], bs)
  | m + 1, bs => if (syP es 48 0 0 bs).1 ≠ 0 then ((syP es 48 0 0 bs).1, [], []) else
      ((sysP es m (syP es 48 0 0 bs).2.2).1, (syP es 48 0 0 bs).2.1 :: (sysP es m (syP es 48 0 0 bs).2.2).2.1, (sysP es m (syP es 48 0 0 bs).2.2).2.2)
theorem sysP_zero (es : List CE) (bs : List Nat) : sysP es 0 bs = (0, [], bs) := by rw [sysP]
theorem sysP_bad {es : List CE} {m : Nat} {bs : List Nat} (h : (syP es 48 0 0 bs).1 ≠ 0) : sysP es (m + 1) bs = ((syP es 48 0 0 bs).1, [], []) := by rw [sysP, if_pos h]
theorem sysP_more {es : List CE} {m : Nat} {bs r : List Nat} {x : Nat} (h : syP es 48 0 0 bs = (0, x, r)) : sysP es (m + 1) bs = ((sysP es m r).1, x :: (sysP es m r).2.1, (sysP es m r).2.2) := by
  rw [sysP, if_neg (by rw [h]; exact fun hh => hh rfl), h]
/-- what is in the map of the codes of the first symbols -/
def ents (l : List Int) (cs : List Nat) : Nat → List CE
  | 0 => []
  | i + 1 => ents l cs i ++ (if 0 < l.getD i 0 then [((cs.getD i 0, (l.getD i 0).toNat), i)] else [])
theorem ents_succ (l : List Int) (cs : List Nat) (i : Nat) : ents l cs (i + 1) = ents l cs i ++ (if 0 < l.getD i 0 then [((cs.getD i 0, (l.getD i 0).toNat), i)] else []) := rfl
theorem ents_mem {l : List Int} {cs : List Nat} : ∀ (n : Nat) (e : CE), e ∈ ents l cs n ↔ e.2 < n ∧ 0 < l.getD e.2 0 ∧ e.1 = (cs.getD e.2 0, (l.getD e.2 0).toNat)
  | 0, e => by simp [ents]
  | n + 1, e => by
    rw [ents_succ, List.mem_append, ents_mem n e]
    constructor
    · rintro (⟨h1, h2, h3⟩ | h)
      · exact ⟨by omega, h2, h3⟩
      · split at h
        · rename_i hp
          rw [List.mem_singleton] at h
          subst h
          exact ⟨Nat.lt_succ_self _, hp, rfl⟩
        · cases h
    · rintro ⟨h1, h2, h3⟩
      by_cases hq : e.2 = n
      · right
        subst hq
        rw [if_pos h2, List.mem_singleton]
        exact Prod.ext h3 rfl
      · exact .inl ⟨by omega, h2, h3⟩
theorem lk_some {es : List CE} {k : Nat × Nat} {x : Nat} (h : lk es k = some x) : (k, x) ∈ es := by
  unfold lk at h
  cases hf : es.find? (fun e => e.1 == k) with
  | none => rw [hf] at h; cases h
  | some e =>
    rw [hf] at h
    have h1 := List.find?_some hf
    have h2 := List.mem_of_find?_eq_some hf
    obtain ⟨ek, ex⟩ := e
    have e1 : ek = k := by simpa using h1
    have e2 : ex = x := by simpa using h
    subst e1 e2
    exact h2
theorem lk_none {es : List CE} {k : Nat × Nat} (h : lk es k = none) (x : Nat) : (k, x) ∉ es := by
  intro hm
  unfold lk at h
  have : es.find? (fun e => e.1 == k) = none := by simpa using h
  have := List.find?_eq_none.1 this _ hm
  simp at this
/-- a key of the first n is no key of the n-th: the codes are unlike -/
theorem ents_new {l : List Int} {cs : List Nat} (h : IsCode l cs) (hb : ∀ n ∈ l, n ≤ 48) {i : Nat} (hi : i < l.length) (h0 : 0 < l.getD i 0) : lk (ents l cs i) (cs.getD i 0, (l.getD i 0).toNat) = none := by
  cases hk : lk (ents l cs i) (cs.getD i 0, (l.getD i 0).toNat) with
  | none => rfl
  | some x =>
    exfalso
    have hm := (ents_mem i _).1 (lk_some hk)
    obtain ⟨h1, h2, h3⟩ := hm
    have hl : (l.getD x 0).toNat = (l.getD i 0).toNat := (congrArg Prod.snd h3).symm
    have hle : l.getD x 0 ≤ l.getD i 0 := by simp only at h2; omega
    have := code_free h hb (i := x) (j := i) (by simp only at h1; omega) hi (by simp only at h1; omega) h2 hle
    apply this
    rw [show (l.getD i 0 - l.getD x 0).toNat = 0 by simp only at h2; omega, Nat.pow_zero, Nat.div_one]
    exact congrArg Prod.fst h3
/-- a symbol's code is read as the symbol -/
theorem syP_code {l : List Int} {cs : List Nat} (h : IsCode l cs) (hb : ∀ n ∈ l, n ≤ 48) (hk : ks l ≤ 2 ^ 48) {x : Nat} (hx : x < l.length) (h0 : 0 < l.getD x 0) (r : List Nat) :
    ∀ (d n : Nat), n + d = (l.getD x 0).toNat → 0 < d → syP (ents l cs l.length) (48 - n) (cs.getD x 0 / 2 ^ d) n (bitsL (cs.getD x 0) d ++ r) = (0, x, r)
  | 0, _, _, h1 => by omega
  | d + 1, n, hn, _ => by
    have hle : l.getD x 0 ≤ 48 := by rw [List.getD_eq_getElem?_getD, List.getElem?_eq_getElem hx]; exact hb _ (List.getElem_mem hx)
    have hc : 2 * (cs.getD x 0 / 2 ^ (d + 1)) + cs.getD x 0 / 2 ^ d % 2 = cs.getD x 0 / 2 ^ d := by
      rw [Nat.pow_succ, ← Nat.div_div_eq_div_mul]; omega
    obtain ⟨f, hf⟩ : ∃ f, 48 - n = f + 1 := ⟨47 - n, by omega⟩
    rw [hf]
    show syP _ (f + 1) _ _ (_ :: (bitsL (cs.getD x 0) d ++ r)) = _
    cases hl : lk (ents l cs l.length) (2 * (cs.getD x 0 / 2 ^ (d + 1)) + cs.getD x 0 / 2 ^ d % 2, n + 1) with
    | some y =>
      rw [syP_hit hl]
      have hm := (ents_mem _ _).1 (lk_some hl)
      obtain ⟨h1, h2, h3⟩ := hm
      rw [hc] at h3
      simp only at h1 h2 h3
      have e1 : cs.getD x 0 / 2 ^ d = cs.getD y 0 := congrArg Prod.fst h3
      have e2 : n + 1 = (l.getD y 0).toNat := congrArg Prod.snd h3
      by_cases hxy : y = x
      · subst hxy
        have : d = 0 := by omega
        subst this
        rfl
      · exfalso
        have := code_free h hb h1 hx hxy h2 (by omega)
        apply this
        rw [show (l.getD x 0 - l.getD y 0).toNat = d by omega]
        exact e1
    | none =>
      rw [syP_miss hl, hc]
      by_cases hd : d = 0
      · subst hd
        exfalso
        apply lk_none hl x
        rw [ents_mem]
        refine ⟨hx, h0, ?_⟩
        rw [hc, Nat.pow_zero, Nat.div_one]
        show (_, _) = _
        rw [show n + 1 = (l.getD x 0).toNat by omega]
      · have ih := syP_code h hb hk hx h0 r d (n + 1) (by omega) (by omega)
        rw [show f = 48 - (n + 1) by omega]
        exact ih
theorem syP_sym {l : List Int} {cs : List Nat} (h : IsCode l cs) (hb : ∀ n ∈ l, n ≤ 48) (hk : ks l ≤ 2 ^ 48) {x : Nat} (hx : x < l.length) (h0 : 0 < l.getD x 0) (r : List Nat) :
    syP (ents l cs l.length) 48 0 0 (bitsL (cs.getD x 0) (l.getD x 0).toNat ++ r) = (0, x, r) := by
  have := syP_code h hb hk hx h0 r (l.getD x 0).toNat 0 (by omega) (by omega)
  rw [code_short h hb hk hx h0] at this
  exact this
/-- so many symbols are read as they were written -/
theorem sysP_syms {l : List Int} {cs : List Nat} (h : IsCode l cs) (hb : ∀ n ∈ l, n ≤ 48) (hk : ks l ≤ 2 ^ 48) (r : List Nat) :
    ∀ (t : List Nat), (∀ x ∈ t, x < l.length ∧ 0 < l.getD x 0) → sysP (ents l cs l.length) t.length (t.flatMap (fun x => bitsL (cs.getD x 0) (l.getD x 0).toNat) ++ r) = (0, t, r)
  | [], _ => rfl
  | x :: t, ht => by
    obtain ⟨h1, h2⟩ := ht x (by simp)
    have ih := sysP_syms h hb hk r t (fun y hy => ht y (by simp [hy]))
    have hs := syP_sym h hb hk h1 h2 (t.flatMap (fun x => bitsL (cs.getD x 0) (l.getD x 0).toNat) ++ r)
    rw [List.flatMap_cons, List.append_assoc, List.length_cons, sysP_more hs, ih]
/-- the pairs of the bytes that have a code, from one on -/
def prs (l : List Int) (i k : Nat) : List Nat := (List.range' i k).flatMap fun b => if 0 < l.getD b 0 then [b, (l.getD b 0).toNat] else []
def prn (l : List Int) (i k : Nat) : Nat := (List.range' i k).countP fun b => decide (0 < l.getD b 0)
theorem set_getD {l : List Int} (i : Nat) (v : Int) (j : Nat) (hj : j < l.length) : (l.set i v).getD j 0 = if i = j then v else l.getD j 0 := by
  rw [List.getD_eq_getElem?_getD, List.getD_eq_getElem?_getD, List.getElem?_set]
  by_cases h : i = j
  · subst h; rw [if_pos rfl, if_pos hj, if_pos rfl]; rfl
  · rw [if_neg h, if_neg h]
theorem lnP_prs (l : List Int) (hb : ∀ b, b < l.length → 0 ≤ l.getD b 0 ∧ l.getD b 0 ≤ 48) (R : List Nat) : ∀ (k i : Nat) (last : Int) (out : List Int), i + k = l.length → last < i → out.length = l.length → (∀ b, b < i → out.getD b 0 = l.getD b 0) → (∀ b, i ≤ b → b < l.length → out.getD b 0 = 0) →
    lnP (prn l i k) last out (prs l i k ++ R) = (0, l, R)
  | 0, i, last, out, hi, _, ho, h1, h2 => by
    have : out = l := by
      apply List.ext_getElem?
      intro j
      by_cases hj : j < l.length
      · have e := h1 j (by omega)
        rw [List.getD_eq_getElem?_getD, List.getD_eq_getElem?_getD, List.getElem?_eq_getElem hj, List.getElem?_eq_getElem (by omega)] at e
        rw [List.getElem?_eq_getElem hj, List.getElem?_eq_getElem (by omega)]
        exact congrArg some e
      · rw [List.getElem?_eq_none (by omega), List.getElem?_eq_none (by omega)]
    simp [prn, prs, lnP, this]
  | k + 1, i, last, out, hi, hl, ho, h1, h2 => by
    by_cases h0 : 0 < l.getD i 0
    · have hbi := hb i (by omega)
      have e1 : prn l i (k + 1) = prn l (i + 1) k + 1 := by unfold prn; rw [List.range'_succ, List.countP_cons, if_pos (by simpa using h0)]
      have e2 : prs l i (k + 1) ++ R = i :: (l.getD i 0).toNat :: (prs l (i + 1) k ++ R) := by
        unfold prs
        rw [List.range'_succ, List.flatMap_cons, if_pos h0]
        rfl
      rw [e1, e2, lnP_more (by simp) (by simp only [List.getD_cons_zero, List.getD_cons_succ]; omega)]
      simp only [List.getD_cons_zero, List.getD_cons_succ, List.drop_succ_cons, List.drop_zero]
      rw [show ((l.getD i 0).toNat : Int) = l.getD i 0 by omega]
      refine lnP_prs l hb R k (i + 1) _ _ (by omega) (by omega) (by simpa using ho) (fun b hbb => ?_) (fun b hbb hbl => ?_)
      · rw [set_getD i _ b (by omega)]
        split
        · rename_i h; rw [h]
        · exact h1 b (by omega)
      · rw [set_getD i _ b (by omega), if_neg (by omega)]
        exact h2 b (by omega) hbl
    · have hbi := hb i (by omega)
      have e1 : prn l i (k + 1) = prn l (i + 1) k := by unfold prn; rw [List.range'_succ, List.countP_cons, if_neg (by simpa using h0)]; rfl
      have e2 : prs l i (k + 1) = prs l (i + 1) k := by
        unfold prs
        rw [List.range'_succ, List.flatMap_cons, if_neg h0]
        rfl
      rw [e1, e2]
      refine lnP_prs l hb R k (i + 1) _ _ (by omega) (by omega) ho (fun b hbb => ?_) (fun b hbb hbl => h2 b (by omega) hbl)
      by_cases hq : b = i
      · subst hq
        rw [h2 b (Nat.le_refl _) (by omega)]
        omega
      · exact h1 b (by omega)
theorem lnP_bound : ∀ (m : Nat) (last : Int) (out : List Int) (s : List Nat), (lnP m last out s).1 = 0 → (lnP m last out s).2.1.length = out.length ∧ (lnP m last out s).2.2.length ≤ s.length
  | 0, _, _, _, _ => ⟨rfl, Nat.le_refl _⟩
  | m + 1, last, out, s, h => by
    by_cases h1 : s.length < 2
    · rw [lnP_short h1] at h; cases h
    · by_cases h2 : (s.getD 0 0 : Int) ≤ last ∨ s.getD 1 0 < 1 ∨ 48 < s.getD 1 0
      · rw [lnP_form h1 h2] at h; cases h
      · rw [lnP_more h1 h2] at h ⊢
        obtain ⟨h3, h4⟩ := lnP_bound m _ _ _ h
        exact ⟨by simpa using h3, by rw [List.length_drop] at h4; omega⟩
end Plain
end Go.Proofs.YtbfhhnpoogmlnaaDoor
