/- Plain laws of graphs: what is reached; the search that finds it; the order of all things. -/
import Derived.WalkKit
namespace Go.Proofs.Ytgoocmocdimnoaa
namespace Plain
/-- the graph is right -/
def Gok (ks : List (List Int)) : Prop := ks.length ≤ 200 ∧ ∀ r ∈ ks, r.length ≤ 64 ∧ ∀ k ∈ r, 0 ≤ k ∧ k < ks.length
def Rok (ks : List (List Int)) (rs : List Int) : Prop := rs.length ≤ 64 ∧ ∀ k ∈ rs, 0 ≤ k ∧ k < ks.length
/-- what is reached -/
inductive Rch (ks : List (List Int)) (rs : List Int) : Nat → Prop
  | root {k : Nat} : (k : Int) ∈ rs → Rch ks rs k
  | step {i k : Nat} : Rch ks rs i → (k : Int) ∈ ks.getD i [] → Rch ks rs k
theorem Gok.row {ks : List (List Int)} (h : Gok ks) (i : Nat) : (ks.getD i []).length ≤ 64 ∧ ∀ k ∈ ks.getD i [], 0 ≤ k ∧ k < ks.length := by
  rw [List.getD_eq_getElem?_getD]
  cases hg : ks[i]? with
  | none => simp
  | some r => exact h.2 r (List.mem_of_getElem? hg)
theorem Rch.lt {ks : List (List Int)} {rs : List Int} (hg : Gok ks) (hr : Rok ks rs) {k : Nat} (h : Rch ks rs k) : k < ks.length := by
  cases h with
  | root h => have := hr.2 _ h; omega
  | step _ h => have := (hg.row _).2 _ h; omega
theorem Rch.mono {ks : List (List Int)} {rs ss : List Int} (h : ∀ k ∈ rs, k ∈ ss) {k : Nat} (hk : Rch ks rs k) : Rch ks ss k := by
  induction hk with
  | root hm => exact .root (h _ hm)
  | step _ hm ih => exact .step ih hm
theorem Rch.append {ks : List (List Int)} {rs ss : List Int} {k : Nat} : Rch ks (rs ++ ss) k ↔ Rch ks rs k ∨ Rch ks ss k := by
  constructor
  · intro h
    induction h with
    | root hm =>
      rcases List.mem_append.1 hm with h | h
      · exact .inl (.root h)
      · exact .inr (.root h)
    | step _ hm ih =>
      rcases ih with h | h
      · exact .inl (.step h hm)
      · exact .inr (.step h hm)
  · rintro (h | h)
    · exact h.mono fun k hk => List.mem_append_left _ hk
    · exact h.mono fun k hk => List.mem_append_right _ hk
/-- who is reached reaches no more -/
theorem Rch.one {ks : List (List Int)} {rs : List Int} {i k : Nat} (hi : Rch ks rs i) (h : Rch ks [(i : Int)] k) : Rch ks rs k := by
  induction h with
  | @root k hm =>
    simp only [List.mem_singleton] at hm
    have : k = i := by exact_mod_cast hm
    rw [this]; exact hi
  | step _ hm ih => exact .step ih hm
theorem Rch.kids {ks : List (List Int)} {i j k : Nat} (hj : (j : Int) ∈ ks.getD i []) (h : Rch ks (ks.getD j []) k) : Rch ks (ks.getD i []) k := by
  induction h with
  | root hm => exact .step (.root hj) hm
  | step _ hm ih => exact .step ih hm
/-- how many are not yet seen -/
def falses (o : List Bool) : Nat := o.countP (fun b => !b)
theorem falses_replicate (n : Nat) : falses (List.replicate n false) = n := by simp [falses, List.countP_replicate]
theorem falses_set : ∀ (o : List Bool) (k : Nat), k < o.length → o.getD k false = false → falses (o.set k true) + 1 = falses o
  | [], k, h, _ => by cases h
  | b :: o, 0, _, hk => by
    have : b = false := hk
    subst this
    simp [falses]
  | b :: o, k + 1, h, hk => by
    have ih := falses_set o k (by simpa using h) hk
    simp only [falses, List.set_cons_succ, List.countP_cons] at ih ⊢
    omega
/-- where the search stands -/
def CI (ks : List (List Int)) (rs : List Int) (o : List Bool) (st : List Int) : Prop :=
  o.length = ks.length ∧ (∀ k ∈ st, 0 ≤ k ∧ k < ks.length ∧ Rch ks rs k.toNat) ∧ (∀ k, o.getD k false = true → Rch ks rs k) ∧ (∀ r ∈ rs, o.getD r.toNat false = true ∨ r ∈ st) ∧
    (∀ i, o.getD i false = true → ∀ k ∈ ks.getD i [], o.getD k.toNat false = true ∨ k ∈ st) ∧ st.length + 64 * falses o ≤ 12864
theorem CI.start {ks : List (List Int)} {rs : List Int} (hg : Gok ks) (hr : Rok ks rs) : CI ks rs (List.replicate ks.length false) rs := by
  have hf : ∀ k, (List.replicate ks.length false).getD k false = false := fun k => by
    rw [List.getD_eq_getElem?_getD, List.getElem?_replicate]; split <;> rfl
  refine ⟨by simp, fun k hk => ?_, fun k hk => ?_, fun r h => .inr h, fun i hi => ?_, ?_⟩
  · have h := hr.2 k hk
    exact ⟨h.1, h.2, .root (by rw [Int.toNat_of_nonneg h.1]; exact hk)⟩
  · rw [hf] at hk; cases hk
  · rw [hf] at hi; cases hi
  · rw [falses_replicate]; have := hr.1; have := hg.1; omega
theorem CI.seen {ks : List (List Int)} {rs : List Int} {o : List Bool} {st : List Int} {k : Int} (h : CI ks rs o (st ++ [k])) (hk : o.getD k.toNat false = true) : CI ks rs o st := by
  obtain ⟨h1, h2, h3, h4, h5, h6⟩ := h
  refine ⟨h1, fun x hx => h2 x (List.mem_append_left _ hx), h3, fun r hr => ?_, fun i hi x hx => ?_, by rw [List.length_append, List.length_singleton] at h6; omega⟩
  · rcases h4 r hr with h | h
    · exact .inl h
    · rcases List.mem_append.1 h with h | h
      · exact .inr h
      · simp only [List.mem_singleton] at h; subst h; exact .inl hk
  · rcases h5 i hi x hx with h | h
    · exact .inl h
    · rcases List.mem_append.1 h with h | h
      · exact .inr h
      · simp only [List.mem_singleton] at h; subst h; exact .inl hk
theorem set_get (o : List Bool) (k i : Nat) (hk : k < o.length) : (o.set k true).getD i false = true ↔ i = k ∨ o.getD i false = true := by
  rw [List.getD_eq_getElem?_getD, List.getD_eq_getElem?_getD, List.getElem?_set]
  by_cases h : k = i
  · subst h; simp [hk]
  · simp [h, show ¬ i = k from fun e => h e.symm]
theorem CI.new {ks : List (List Int)} {rs : List Int} {o : List Bool} {st : List Int} {k : Int} (hg : Gok ks) (h : CI ks rs o (st ++ [k])) (hk : o.getD k.toNat false = false) : CI ks rs (o.set k.toNat true) (st ++ ks.getD k.toNat []) := by
  obtain ⟨h1, h2, h3, h4, h5, h6⟩ := h
  obtain ⟨hk0, hk1, hk2⟩ := h2 k (by simp)
  have hko : k.toNat < o.length := by omega
  have hset := fun i => set_get o k.toNat i hko
  refine ⟨by rw [List.length_set]; exact h1, fun x hx => ?_, fun i hi => ?_, fun r hr => ?_, fun i hi x hx => ?_, ?_⟩
  · rcases List.mem_append.1 hx with hx | hx
    · exact h2 x (List.mem_append_left _ hx)
    · obtain ⟨a, b⟩ := (hg.row k.toNat).2 x hx
      exact ⟨a, b, .step hk2 (by rw [Int.toNat_of_nonneg a]; exact hx)⟩
  · rcases (hset i).1 hi with e | h
    · subst e; exact hk2
    · exact h3 i h
  · rcases h4 r hr with h | h
    · exact .inl ((hset _).2 (.inr h))
    · rcases List.mem_append.1 h with h | h
      · exact .inr (List.mem_append_left _ h)
      · simp only [List.mem_singleton] at h; subst h; exact .inl ((hset _).2 (.inl rfl))
  · rcases (hset i).1 hi with e | h
    · subst e; exact .inr (List.mem_append_right _ hx)
    · rcases h5 i h x hx with h | h
      · exact .inl ((hset _).2 (.inr h))
      · rcases List.mem_append.1 h with h | h
        · exact .inr (List.mem_append_left _ h)
        · simp only [List.mem_singleton] at h; subst h; exact .inl ((hset _).2 (.inl rfl))
  · have hf := falses_set o k.toNat hko hk
    have hl := (hg.row k.toNat).1
    rw [List.length_append, List.length_singleton] at h6
    rw [List.length_append]
    omega
/-- the search is over -/
def GSpec (ks : List (List Int)) (rs : List Int) (o : List Bool) : Prop := o.length = ks.length ∧ ∀ k, o.getD k false = true ↔ Rch ks rs k
theorem CI.done {ks : List (List Int)} {rs : List Int} {o : List Bool} (h : CI ks rs o []) : GSpec ks rs o := by
  obtain ⟨h1, _, h3, h4, h5, _⟩ := h
  refine ⟨h1, fun k => ⟨h3 k, fun hk => ?_⟩⟩
  induction hk with
  | root hm => rcases h4 _ hm with h | h
               · simpa using h
               · cases h
  | step _ hm ih => rcases h5 _ ih _ hm with h | h
                    · simpa using h
                    · cases h
theorem GSpec.unique {ks : List (List Int)} {rs : List Int} {o p : List Bool} (h : GSpec ks rs o) (h' : GSpec ks rs p) : o = p := by
  apply List.ext_getElem?
  intro i
  by_cases hi : i < ks.length
  · have ho : i < o.length := by rw [h.1]; exact hi
    have hp : i < p.length := by rw [h'.1]; exact hi
    have e : (o.getD i false = true) ↔ (p.getD i false = true) := (h.2 i).trans (h'.2 i).symm
    simp only [List.getD_eq_getElem?_getD, List.getElem?_eq_getElem ho, List.getElem?_eq_getElem hp, Option.getD_some] at e
    rw [List.getElem?_eq_getElem ho, List.getElem?_eq_getElem hp, Bool.eq_iff_iff.2 e]
  · rw [List.getElem?_eq_none (by rw [h.1]; omega), List.getElem?_eq_none (by rw [h'.1]; omega)]
/-- TARSKI: a set that has the roots, and with each thing its kids, has all that is reached -/
theorem least {ks : List (List Int)} {rs : List Int} {s : Nat → Prop} (h0 : ∀ k : Nat, (k : Int) ∈ rs → s k) (h1 : ∀ i k : Nat, s i → (k : Int) ∈ ks.getD i [] → s k) {k : Nat} (h : Rch ks rs k) : s k := by
  induction h with
  | root hm => exact h0 _ hm
  | step _ hm ih => exact h1 _ _ ih hm
/-! the order -/
/-- may a thing be told next? -/
def ready (ks : List (List Int)) (d : List Bool) (i : Nat) : Bool := !d.getD i false && (ks.getD i []).all fun k => d.getD k.toNat false
/-- the first thing that may, from i on -/
def first (ks : List (List Int)) (d : List Bool) : Nat → Nat → Option Nat
  | 0, _ => none
  | n + 1, i => if ready ks d i then some i else first ks d n (i + 1)
def ord (ks : List (List Int)) : Nat → List Bool → List Nat → Option (List Nat)
  | 0, _, out => if out.length < ks.length then none else some out
  | f + 1, d, out => if out.length < ks.length then
      match first ks d ks.length 0 with
      | none => none
      | some i => ord ks f (d.set i true) (out ++ [i])
    else some out
theorem first_some {ks : List (List Int)} {d : List Bool} : ∀ (n i j : Nat), first ks d n i = some j → ready ks d j = true ∧ i ≤ j ∧ j < i + n
  | 0, _, _, h => by cases h
  | n + 1, i, j, h => by
    rw [first] at h
    by_cases hr : ready ks d i = true
    · rw [if_pos hr] at h
      obtain rfl : i = j := by injection h
      exact ⟨hr, Nat.le_refl _, by omega⟩
    · rw [if_neg hr] at h
      have := first_some n (i + 1) j h
      exact ⟨this.1, by omega, by omega⟩
theorem first_none {ks : List (List Int)} {d : List Bool} : ∀ (n i : Nat), first ks d n i = none → ∀ j, i ≤ j → j < i + n → ready ks d j = false
  | 0, _, _, j, h1, h2 => by omega
  | n + 1, i, h, j, h1, h2 => by
    rw [first] at h
    by_cases hr : ready ks d i = true
    · rw [if_pos hr] at h; cases h
    · rw [if_neg hr] at h
      by_cases e : j = i
      · subst e; simpa using hr
      · exact first_none n (i + 1) h j (by omega) (by omega)
end Plain
end Go.Proofs.Ytgoocmocdimnoaa
