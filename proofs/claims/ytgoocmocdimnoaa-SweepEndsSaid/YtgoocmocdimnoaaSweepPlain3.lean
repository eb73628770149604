/- Plain laws of the marker: which act begins marking; the walk's words for what is dead and for how far marking has come. -/
import Derived.Test.YtgoocmocdimnoaaSweepPlain2
namespace Go.Proofs.Ytgoocmocdimnoaa
namespace Plain
theorem root_busy {h g : Hp} {k : Int} (hg : rootF h k = some g) : g.2.2 = h.2.2 := by
  unfold rootF at hg
  split at hg
  · cases hg
  · injection hg with hg; rw [← hg]
/-- only marking turns the flag -/
theorem step_flag {h g : Hp} {a : Ac} (hg : stepF h a = some g) : a.1 = 1 ∧ g = markF h ∨ g.2.2 = h.2.2 := by
  unfold stepF at hg
  split at hg
  · injection hg with hg
    exact .inl ⟨by assumption, hg.symm⟩
  · right
    split at hg
    · unfold freshF at hg
      cases hfr : freeAt h.1 with
      | some i => rw [hfr] at hg; simp only at hg; have := root_busy hg; exact this
      | none =>
        rw [hfr] at hg
        simp only at hg
        split at hg
        · cases hg
        · have := root_busy hg; exact this
    · split at hg
      · unfold linkF at hg
        split at hg
        · split at hg
          · split at hg
            · cases hg
            · injection hg with hg; rw [← hg]
          · cases hg
        · cases hg
      · split at hg
        · unfold cutF at hg
          split at hg
          · split at hg
            · split at hg
              · injection hg with hg; rw [← hg]
              · cases hg
            · cases hg
          · cases hg
        · split at hg
          · exact root_busy (hold_all hg).2
          · split at hg
            · rw [drop_all hg]
            · cases hg
/-- the dead as a list of numbers -/
def DL (dl : List Int) (i : Nat) : Prop := (i : Int) ∈ dl
theorem cl_of {D E : Nat → Prop} {h : Hp} (hc : Cl D h) (he : ∀ i, E i ↔ D i) : Cl E h := by
  have : E = D := funext fun i => propext (he i)
  rw [this]; exact hc
/-- where the list of the dead stands: those ahead of j -/
def DAt (h : Hp) (j : Nat) (dl : List Int) : Prop := dl.length ≤ j ∧ ∀ x : Int, x ∈ dl ↔ ∃ i : Nat, x = (i : Int) ∧ i < j ∧ Dd h i
theorem DAt.zero (h : Hp) : DAt h 0 [] := ⟨Nat.le_refl _, fun x => ⟨fun hx => absurd hx (by simp), fun ⟨i, _, hi, _⟩ => absurd hi (Nat.not_lt_zero _)⟩⟩
theorem DAt.yes {h : Hp} {j : Nat} {dl : List Int} (hd : DAt h j dl) (hj : Dd h j) : DAt h (j + 1) (dl ++ [(j : Int)]) := by
  refine ⟨by rw [List.length_append]; exact Nat.succ_le_succ hd.1, fun x => ?_⟩
  rw [List.mem_append, hd.2 x, List.mem_singleton]
  constructor
  · rintro (⟨i, e, hi, hdi⟩ | rfl)
    · exact ⟨i, e, by omega, hdi⟩
    · exact ⟨j, rfl, by omega, hj⟩
  · rintro ⟨i, rfl, hi, hdi⟩
    by_cases e : i = j
    · subst e; exact .inr rfl
    · exact .inl ⟨i, rfl, by omega, hdi⟩
theorem DAt.no {h : Hp} {j : Nat} {dl : List Int} (hd : DAt h j dl) (hj : ¬ Dd h j) : DAt h (j + 1) dl := by
  refine ⟨Nat.le_succ_of_le hd.1, fun x => (hd.2 x).trans ⟨fun ⟨i, e, hi, hdi⟩ => ⟨i, e, by omega, hdi⟩, fun ⟨i, e, hi, hdi⟩ => ⟨i, e, ?_, hdi⟩⟩⟩
  by_cases e' : i = j
  · subst e'; exact absurd hdi hj
  · omega
theorem DAt.all {h : Hp} {n : Nat} {dl : List Int} (hd : DAt h n dl) (hn : h.1.length ≤ n) (i : Nat) : DL dl i ↔ Dd h i := by
  unfold DL
  rw [hd.2]
  constructor
  · rintro ⟨k, e, _, hk⟩
    have : i = k := by omega
    rw [this]; exact hk
  · intro hi
    have hlt : i < h.1.length := by
      obtain ⟨t, ht, _⟩ := hi
      exact (List.getElem?_eq_some_iff.1 ht).1
    exact ⟨i, rfl, by omega, hi⟩
/-- how far the second marking has come -/
def Far (h0 h : Hp) (m : Nat) : Prop := Inv h ∧ h.1.length = h0.1.length ∧
  ((m = 0 ∧ h = h0 ∧ h.2.2 = false) ∨ (1 ≤ m ∧ h.2.2 = true ∧ mu h.1 + (m - 1) ≤ h0.1.length ∧ Cl (Dd h0) h ∧ Ks h0 h) ∨ (1 ≤ m ∧ h.2.2 = false ∧ Fin h))
theorem mark_step {h : Hp} : stepF h (1, 0, 0) = some (markF h) := by unfold stepF; rw [if_pos rfl]
theorem Far.start {h : Hp} (hv : Inv h) (hb : h.2.2 = false) : Far h h 0 := ⟨hv, rfl, .inl ⟨rfl, rfl, hb⟩⟩
theorem Far.next {h0 h : Hp} {m : Nat} (hf : Far h0 h m) (hgo : m = 0 ∨ h.2.2 = true) : Far h0 (markF h) (m + 1) := by
  obtain ⟨hv, hl, hc⟩ := hf
  have hv' := (step_inv hv (mark_step)).1
  rcases hc with ⟨rfl, rfl, hb⟩ | ⟨hm, hb, hmu, hcl, hks⟩ | ⟨hm, hb, _⟩
  · obtain ⟨ts, rs, b⟩ := h
    simp only at hb
    subst hb
    have hk := begin_ks hv.1
    obtain ⟨us, e, _, _⟩ := begin_up hv.1
    refine ⟨hv', hk.2.1, .inr (.inl ⟨by omega, by rw [e], ?_, begin_clean hv.1, hk⟩)⟩
    have := mu_le (markF (ts, rs, false)).1
    have hl2 : (markF (ts, rs, false)).1.length = ts.length := hk.2.1
    show _ + (0 + 1 - 1) ≤ ts.length
    omega
  · rcases mark_busy hv hb with ⟨hb', hmu', hk'⟩ | ⟨hb', hl', hgr⟩
    · have hcl' : Cl (Dd h0) (markF h) := by
        rcases step_clean hv hb hcl (mark_step) with ⟨_, h⟩ | ⟨h, _⟩
        · exact h
        · rw [hb'] at h; cases h
      exact ⟨hv', hk'.2.1.trans hl, .inr (.inl ⟨by omega, hb', by omega, hcl', hks.trans hk'⟩)⟩
    · exact ⟨hv', hl'.trans hl, .inr (.inr ⟨by omega, hb', ends_fin hv hb hcl hks hgr⟩)⟩
  · rcases hgo with h | h
    · omega
    · rw [hb] at h; cases h
theorem Far.done {h0 h : Hp} {m : Nat} (hf : Far h0 h m) (hstop : h0.1.length + 2 ≤ m ∨ (m ≠ 0 ∧ h.2.2 = false)) : Fin h ∧ h.2.2 = false := by
  obtain ⟨hv, hl, hc⟩ := hf
  rcases hc with ⟨rfl, rfl, hb⟩ | ⟨hm, hb, hmu, _⟩ | ⟨_, hb, hfin⟩
  · rcases hstop with h | ⟨h, _⟩
    · omega
    · exact absurd rfl h
  · rcases hstop with h | ⟨_, h⟩
    · omega
    · rw [hb] at h; cases h
  · exact ⟨hfin, hb⟩
/-- how far the first marking has come -/
def Fst (h : Hp) (n j : Nat) : Prop := Inv h ∧ h.1.length = n ∧ (h.2.2 = true → mu h.1 + j ≤ n)
theorem Fst.start {h : Hp} (hv : Inv h) : Fst h h.1.length 0 := ⟨hv, rfl, fun _ => mu_le _⟩
theorem Fst.idle {h : Hp} {n j : Nat} (hf : Fst h n j) (hb : h.2.2 = false) : Fst h n (j + 1) := ⟨hf.1, hf.2.1, fun h => by rw [hb] at h; cases h⟩
theorem Fst.next {h : Hp} {n j : Nat} (hf : Fst h n j) (hb : h.2.2 = true) : Fst (markF h) n (j + 1) := by
  obtain ⟨hv, hl, hm⟩ := hf
  have hv' := (step_inv hv (mark_step)).1
  rcases mark_busy hv hb with ⟨hb', hmu', hk'⟩ | ⟨hb', hl', _⟩
  · exact ⟨hv', hk'.2.1.trans hl, fun _ => by have := hm hb; omega⟩
  · exact ⟨hv', hl'.trans hl, fun h => by rw [hb'] at h; cases h⟩
theorem Fst.done {h : Hp} {n j : Nat} (hf : Fst h n j) (hj : n < j) : h.2.2 = false := by
  cases hb : h.2.2 with
  | false => rfl
  | true => have := hf.2.2 hb; omega
end Plain
end Go.Proofs.Ytgoocmocdimnoaa
