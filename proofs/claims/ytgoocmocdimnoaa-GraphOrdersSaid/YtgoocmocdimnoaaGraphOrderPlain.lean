/- Plain law of the order: told, it is an order and there is no cycle; not told, there is a cycle. -/
import Derived.Test.YtgoocmocdimnoaaGraphPlain
namespace Go.Proofs.Ytgoocmocdimnoaa
namespace Plain
/-- where the telling stands -/
def OI (ks : List (List Int)) (d : List Bool) (out : List Nat) : Prop :=
  d.length = ks.length ∧ out.Nodup ∧ (∀ i, d.getD i false = true ↔ i ∈ out) ∧ out.length + falses d = ks.length ∧
    ∀ p, p < out.length → ∀ k ∈ ks.getD (out.getD p 0) [], ∃ q, q < p ∧ out.getD q 0 = k.toNat
theorem OI.start (ks : List (List Int)) : OI ks (List.replicate ks.length false) [] := by
  refine ⟨by simp, by simp, fun i => ?_, by rw [falses_replicate]; simp, fun p hp => by simp at hp⟩
  rw [List.getD_eq_getElem?_getD, List.getElem?_replicate]
  split <;> simp
theorem getD_append_lt (l m : List Nat) (p : Nat) (h : p < l.length) : (l ++ m).getD p 0 = l.getD p 0 := by
  rw [List.getD_eq_getElem?_getD, List.getD_eq_getElem?_getD, List.getElem?_append_left h]
theorem mem_getD (l : List Nat) (i : Nat) (h : i ∈ l) : ∃ q, q < l.length ∧ l.getD q 0 = i := by
  obtain ⟨q, hq, e⟩ := List.mem_iff_getElem.1 h
  exact ⟨q, hq, by rw [List.getD_eq_getElem?_getD, List.getElem?_eq_getElem hq]; exact e⟩
theorem OI.step {ks : List (List Int)} {d : List Bool} {out : List Nat} {i : Nat} (h : OI ks d out) (hi : i < ks.length) (hr : ready ks d i = true) : OI ks (d.set i true) (out ++ [i]) := by
  obtain ⟨h1, h2, h3, h4, h5⟩ := h
  unfold ready at hr
  rw [Bool.and_eq_true, List.all_eq_true] at hr
  obtain ⟨hd, hk⟩ := hr
  have hd : d.getD i false = false := by simpa using hd
  have hni : i ∉ out := fun hm => by rw [(h3 i).2 hm] at hd; cases hd
  refine ⟨by rw [List.length_set]; exact h1, ?_, fun j => ?_, ?_, fun p hp k hkk => ?_⟩
  · rw [List.nodup_append]
    refine ⟨h2, by simp, fun a ha b hb => ?_⟩
    simp only [List.mem_singleton] at hb
    subst hb
    exact fun e => hni (e ▸ ha)
  · rw [set_get d i j (by omega), List.mem_append, List.mem_singleton, h3 j]
    exact Or.comm
  · have := falses_set d i (by omega) hd
    rw [List.length_append, List.length_singleton]
    omega
  · rw [List.length_append, List.length_singleton] at hp
    by_cases hpl : p < out.length
    · rw [getD_append_lt _ _ _ hpl] at hkk
      obtain ⟨q, hq, e⟩ := h5 p hpl k hkk
      exact ⟨q, hq, by rw [getD_append_lt _ _ _ (by omega)]; exact e⟩
    · obtain rfl : p = out.length := by omega
      have e0 : (out ++ [i]).getD out.length 0 = i := by simp
      rw [e0] at hkk
      have := hk k hkk
      obtain ⟨q, hq, e⟩ := mem_getD out k.toNat ((h3 _).1 this)
      exact ⟨q, hq, by rw [getD_append_lt _ _ _ hq]; exact e⟩
theorem ord_ends (ks : List (List Int)) : ∀ (f : Nat) (d : List Bool) (out : List Nat), OI ks d out → ks.length ≤ out.length + f →
    (∃ l d', ord ks f d out = some l ∧ OI ks d' l ∧ ks.length ≤ l.length) ∨ (∃ d' out', ord ks f d out = none ∧ OI ks d' out' ∧ out'.length < ks.length ∧ first ks d' ks.length 0 = none)
  | 0, d, out, h, hf => .inl ⟨out, d, by rw [ord, if_neg (by omega)], h, by omega⟩
  | f + 1, d, out, h, hf => by
    by_cases hl : out.length < ks.length
    · cases hfi : first ks d ks.length 0 with
      | none => exact .inr ⟨d, out, by rw [ord, if_pos hl, hfi], h, hl, hfi⟩
      | some i =>
        obtain ⟨hr, _, hi⟩ := first_some _ _ _ hfi
        have := ord_ends ks f (d.set i true) (out ++ [i]) (h.step (by omega) hr) (by rw [List.length_append, List.length_singleton]; omega)
        rw [ord, if_pos hl, hfi]
        exact this
    · exact .inl ⟨out, d, by rw [ord, if_neg hl], h, by omega⟩
theorem nodup_inj {l : List Nat} (h : l.Nodup) {p q : Nat} (hp : p < l.length) (hq : q < l.length) (e : l.getD p 0 = l.getD q 0) : p = q := by
  rw [List.getD_eq_getElem?_getD, List.getD_eq_getElem?_getD, List.getElem?_eq_getElem hp, List.getElem?_eq_getElem hq] at e
  simp only [Option.getD_some] at e
  have h' := List.pairwise_iff_getElem.1 h
  rcases Nat.lt_trichotomy p q with hlt | heq | hlt
  · exact absurd e (h' p q hp hq hlt)
  · exact heq
  · exact absurd e.symm (h' q p hq hp hlt)
/-- the order that is told -/
def Told (ks : List (List Int)) (l : List Nat) : Prop := l.Nodup ∧ l.length = ks.length ∧ (∀ i, i < ks.length → ∃ p, p < l.length ∧ l.getD p 0 = i) ∧ (∀ p, p < l.length → ∀ k ∈ ks.getD (l.getD p 0) [], ∃ q, q < p ∧ l.getD q 0 = k.toNat) ∧ ∀ p, p < l.length → l.getD p 0 < ks.length
theorem told_of {ks : List (List Int)} {l : List Nat} (h : ord ks ks.length (List.replicate ks.length false) [] = some l) : Told ks l := by
  rcases ord_ends ks ks.length _ _ (OI.start ks) (by simp) with ⟨l', d, h1, ⟨h2, h3, h4, h5, h6⟩, h7⟩ | ⟨_, _, h1, _⟩
  · rw [h] at h1
    injection h1 with h1
    subst h1
    have hf : falses d = 0 := by omega
    refine ⟨h3, by omega, fun i hi => mem_getD l i ((h4 i).1 ?_), h6, fun p hp => ?_⟩
    rotate_left
    · have hm : l.getD p 0 ∈ l := by
        rw [List.getD_eq_getElem?_getD, List.getElem?_eq_getElem hp]
        exact List.getElem_mem hp
      have hd := (h4 _).2 hm
      rcases Nat.lt_or_ge (l.getD p 0) d.length with h | h
      · omega
      · generalize l.getD p 0 = x at *
        rw [List.getD_eq_getElem?_getD, List.getElem?_eq_none h] at hd
        cases hd
    have hid : i < d.length := by omega
    have hz := List.countP_eq_zero.1 hf d[i] (List.getElem_mem hid)
    rw [List.getD_eq_getElem?_getD, List.getElem?_eq_getElem hid]
    simpa using hz
  · rw [h] at h1; cases h1
theorem told_before {ks : List (List Int)} {l : List Nat} (h : Told ks l) {i p k : Nat} (hp : p < l.length) (e : l.getD p 0 = i) (hk : Rch ks (ks.getD i []) k) : ∃ q, q < p ∧ l.getD q 0 = k := by
  induction hk with
  | @root k hm =>
    obtain ⟨q, hq, e'⟩ := h.2.2.2.1 p hp _ (by rw [e]; exact hm)
    exact ⟨q, hq, by rw [e', Int.toNat_natCast]⟩
  | @step j k _ hm ih =>
    obtain ⟨q, hq, e'⟩ := ih
    obtain ⟨q', hq', e''⟩ := h.2.2.2.1 q (by omega) _ (by rw [e']; exact hm)
    exact ⟨q', by omega, by rw [e'', Int.toNat_natCast]⟩
theorem told_no_cycle {ks : List (List Int)} {l : List Nat} (h : Told ks l) (i : Nat) (hi : i < ks.length) : ¬ Rch ks (ks.getD i []) i := fun hk => by
  obtain ⟨p, hp, e⟩ := h.2.2.1 i hi
  obtain ⟨q, hq, e'⟩ := told_before h hp e hk
  have := nodup_inj h.1 (by omega) hp (e'.trans e.symm)
  omega
theorem countP_less {p q : Nat → Bool} : ∀ (l : List Nat), (∀ x ∈ l, p x = true → q x = true) → (∃ x, x ∈ l ∧ q x = true ∧ p x = false) → l.countP p < l.countP q
  | [], _, ⟨x, hx, _⟩ => by cases hx
  | y :: l, h, ⟨x, hx, h1, h2⟩ => by
    have hle : l.countP p ≤ l.countP q := List.countP_mono_left fun z hz => h z (List.mem_cons_of_mem _ hz)
    rw [List.countP_cons, List.countP_cons]
    rcases List.mem_cons.1 hx with rfl | hx
    · rw [h1, h2]; simp; omega
    · have := countP_less l (fun z hz => h z (List.mem_cons_of_mem _ hz)) ⟨x, hx, h1, h2⟩
      have hy := h y (by simp)
      cases hp : p y with
      | false => simp; omega
      | true => rw [hy hp]; simp; omega
open Classical in
theorem cycle_of {ks : List (List Int)} (hg : Gok ks) (U : Nat → Prop) (hU : ∀ j, U j → ∃ k, U k ∧ (k : Int) ∈ ks.getD j []) {j : Nat} (h0 : U j) : ∃ i, i < ks.length ∧ Rch ks (ks.getD i []) i := by
  apply Classical.byContradiction
  intro hno
  have hno' : ∀ i, i < ks.length → ¬ Rch ks (ks.getD i []) i := fun i hi hr => hno ⟨i, hi, hr⟩
  have key : ∀ (m j : Nat), U j → (List.range ks.length).countP (fun k => decide (Rch ks (ks.getD j []) k)) < m → False := by
    intro m
    induction m with
    | zero => intro j _ h; omega
    | succ m ih =>
      intro j hj hm
      obtain ⟨k, hk, hkid⟩ := hU j hj
      have hkn : k < ks.length := by have := (hg.row j).2 _ hkid; omega
      refine ih k hk ?_
      have hlt : (List.range ks.length).countP (fun x => decide (Rch ks (ks.getD k []) x)) < (List.range ks.length).countP (fun x => decide (Rch ks (ks.getD j []) x)) := by
        refine countP_less _ (fun x _ hx => ?_) ⟨k, by simpa using hkn, ?_, ?_⟩
        · exact decide_eq_true ((of_decide_eq_true hx).kids hkid)
        · exact decide_eq_true (.root hkid)
        · exact decide_eq_false (hno' k hkn)
      omega
  exact key _ j h0 (Nat.lt_succ_self _)
theorem cycle_none {ks : List (List Int)} (hg : Gok ks) (h : ord ks ks.length (List.replicate ks.length false) [] = none) : ∃ i, i < ks.length ∧ Rch ks (ks.getD i []) i := by
  rcases ord_ends ks ks.length _ _ (OI.start ks) (by simp) with ⟨l', d, h1, _⟩ | ⟨d, out, _, ⟨h2, h3, h4, h5, h6⟩, h7, h8⟩
  · rw [h] at h1; cases h1
  · have hf : 0 < falses d := by omega
    obtain ⟨b, hb, hbf⟩ := List.countP_pos_iff.1 hf
    obtain ⟨j, hj, e⟩ := List.mem_iff_getElem.1 hb
    have hbf' : b = false := by simpa using hbf
    refine cycle_of hg (fun j => j < ks.length ∧ d.getD j false = false) (fun j hj => ?_) (j := j) ⟨by omega, by rw [List.getD_eq_getElem?_getD, List.getElem?_eq_getElem hj, Option.getD_some, e, hbf']⟩
    have hr := first_none _ _ h8 j (Nat.zero_le _) (by omega)
    unfold ready at hr
    rw [hj.2] at hr
    simp only [Bool.not_false, Bool.true_and] at hr
    rw [List.all_eq_false] at hr
    obtain ⟨k, hk, hkd⟩ := hr
    have hkb := (hg.row j).2 k hk
    exact ⟨k.toNat, ⟨by omega, by simpa using hkd⟩, by rw [Int.toNat_of_nonneg hkb.1]; exact hk⟩
end Plain
end Go.Proofs.Ytgoocmocdimnoaa
