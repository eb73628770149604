/- Huffman: what the forest keeps while its two least trees are joined. -/
import Derived.Test.YtbfhhnpoogmlnaaDoorHuffOpt
namespace Go.Proofs.YtbfhhnpoogmlnaaDoor
namespace Plain
set_option linter.unusedVariables false
abbrev Tr := Nat × List Nat
def at0 (l : List Nat) (s : Nat) : Nat := l.getD s 0
def sumS (g : Nat → Nat) (S : List Nat) : Nat := (S.map g).sum
def inc (o : List Nat) (s : Nat) : List Nat := o.set s (at0 o s + 1)
def incs (o : List Nat) (S : List Nat) : List Nat := S.foldl inc o
def tot (f o : List Nat) : Nat := sumS (fun i => at0 f i * at0 o i) (List.range f.length)
def syms (f : List Nat) : List Nat := (List.range f.length).filter fun s => decide (0 < at0 f s)
def kS (o : List Nat) (S : List Nat) : Nat := sumS (fun s => 2 ^ (48 - at0 o s)) S
def G : Nat → Nat
  | 0 => 1
  | 1 => 1
  | n + 2 => G (n + 1) + G n
theorem G_le : ∀ n, G n ≤ G (n + 1) ∧ 1 ≤ G n
  | 0 => ⟨Nat.le_refl _, Nat.le_refl _⟩
  | n + 1 => by
    have h := G_le n
    simp only [G]
    omega
theorem G_mono {n m : Nat} (h : n ≤ m) : G n ≤ G m := by
  induction h with
  | refl => exact Nat.le_refl _
  | step _ ih => exact Nat.le_trans ih (G_le _).1
theorem G5 (n : Nat) : 8 * G n ≤ G (n + 5) := by
  have h := G_le n
  simp only [G]
  omega
theorem G48 : 268435456 < G 48 := by
  have h0 : 1 ≤ G 0 := (G_le 0).2
  have h1 := G5 0
  have h2 := G5 5
  have h3 := G5 10
  have h4 := G5 15
  have h5 := G5 20
  have h6 := G5 25
  have h7 := G5 30
  have h8 := G5 35
  have h9 := G5 40
  have h10 : G 48 = G 47 + G 46 := rfl
  have h11 : G 47 = G 46 + G 45 := rfl
  have h12 := (G_le 45).1
  simp only [Nat.reduceAdd] at *
  omega
theorem at0_lt {l : List Nat} {s : Nat} (h : 0 < at0 l s) : s < l.length := by
  rcases Nat.lt_or_ge s l.length with h1 | h1
  · exact h1
  · rw [at0, List.getD_eq_getElem?_getD, List.getElem?_eq_none h1] at h; simp at h
theorem inc_len (o : List Nat) (s : Nat) : (inc o s).length = o.length := List.length_set
theorem incs_len : ∀ (S : List Nat) (o : List Nat), (incs o S).length = o.length
  | [], o => rfl
  | s :: S, o => (incs_len S (inc o s)).trans (inc_len o s)
theorem inc_at {o : List Nat} {s : Nat} (h : s < o.length) (t : Nat) : at0 (inc o s) t = if t = s then at0 o t + 1 else at0 o t := by
  by_cases e : t = s
  · subst e
    rw [if_pos rfl, at0, inc, List.getD_eq_getElem?_getD, List.getElem?_set_self h]
    rfl
  · rw [if_neg e, at0, inc, List.getD_eq_getElem?_getD, List.getElem?_set_ne (Ne.symm e)]
    rfl
theorem incs_at : ∀ (S : List Nat) (o : List Nat) (_ : S.Nodup) (_ : ∀ s ∈ S, s < o.length) (t : Nat), at0 (incs o S) t = if t ∈ S then at0 o t + 1 else at0 o t
  | [], o, _, _, t => by simp [incs]
  | s :: S, o, hn, hl, t => by
    have hs := hl s List.mem_cons_self
    have h := incs_at S (inc o s) (List.nodup_cons.1 hn).2 (fun x hx => by rw [inc_len]; exact hl x (List.mem_cons_of_mem _ hx)) t
    rw [show incs o (s :: S) = incs (inc o s) S from rfl, h, inc_at hs]
    have hns := (List.nodup_cons.1 hn).1
    by_cases e : t = s
    · subst e
      rw [if_neg hns, if_pos rfl, if_pos List.mem_cons_self]
    · by_cases hm : t ∈ S
      · rw [if_pos hm, if_neg e, if_pos (List.mem_cons_of_mem _ hm)]
      · rw [if_neg hm, if_neg e, if_neg (fun h => by rcases List.mem_cons.1 h with h | h; exact e h; exact hm h)]
theorem sumS_append (g : Nat → Nat) (S T : List Nat) : sumS g (S ++ T) = sumS g S + sumS g T := by
  simp only [sumS, List.map_append, List.sum_append]
theorem sumS_congr {g h : Nat → Nat} {S : List Nat} (e : ∀ s ∈ S, g s = h s) : sumS g S = sumS h S := by
  unfold sumS
  rw [List.map_congr_left e]
theorem sumS_perm {g : Nat → Nat} {S T : List Nat} (h : S.Perm T) : sumS g S = sumS g T := by
  unfold sumS
  exact (h.map g).sum_nat
theorem sumS_cons (g : Nat → Nat) (s : Nat) (S : List Nat) : sumS g (s :: S) = g s + sumS g S := by simp [sumS]
theorem sumS_le {g h : Nat → Nat} : ∀ {S : List Nat}, (∀ s ∈ S, g s ≤ h s) → sumS g S ≤ sumS h S
  | [], _ => Nat.le_refl _
  | s :: S, e => by
    rw [sumS_cons, sumS_cons]
    have := sumS_le (S := S) fun x hx => e x (List.mem_cons_of_mem _ hx)
    have := e s List.mem_cons_self
    omega
/-- one number of a sum over a range grows -/
theorem sumS_bump {g h : Nat → Nat} {s d : Nat} (hs : h s = g s + d) (ho : ∀ t, t ≠ s → h t = g t) : ∀ (S : List Nat), S.Nodup → sumS h S = sumS g S + if s ∈ S then d else 0
  | [], _ => by simp [sumS]
  | x :: S, hn => by
    have ih := sumS_bump hs ho S (List.nodup_cons.1 hn).2
    have hx := (List.nodup_cons.1 hn).1
    rw [sumS_cons, sumS_cons, ih]
    by_cases e : x = s
    · subst e
      rw [if_neg hx, if_pos List.mem_cons_self, hs]
      omega
    · rw [ho x e]
      by_cases hm : s ∈ S
      · rw [if_pos hm, if_pos (List.mem_cons_of_mem _ hm)]
        omega
      · rw [if_neg hm, if_neg (fun h => by rcases List.mem_cons.1 h with h | h; exact e h.symm; exact hm h)]
        omega
theorem tot_inc {f o : List Nat} {s : Nat} (hl : o.length = f.length) (hs : s < o.length) : tot f (inc o s) = tot f o + at0 f s := by
  unfold tot
  rw [sumS_bump (g := fun i => at0 f i * at0 o i) (s := s) (d := at0 f s) (by simp only [inc_at hs, if_pos, Nat.mul_succ]) (fun t ht => by simp only [inc_at hs, if_neg ht]) _ List.nodup_range, if_pos (List.mem_range.2 (by omega))]
theorem tot_incs {f : List Nat} : ∀ (S : List Nat) (o : List Nat) (_ : o.length = f.length) (_ : ∀ s ∈ S, s < o.length), tot f (incs o S) = tot f o + sumS (at0 f) S
  | [], o, _, _ => by simp [incs, sumS]
  | s :: S, o, hl, hs => by
    rw [show incs o (s :: S) = incs (inc o s) S from rfl, tot_incs S (inc o s) (by rw [inc_len, hl]) (fun x hx => by rw [inc_len]; exact hs x (List.mem_cons_of_mem _ hx)), tot_inc hl (hs s List.mem_cons_self), sumS_cons]
    omega
theorem kS_half {o : List Nat} {S : List Nat} : ∀ (T : List Nat), (∀ t ∈ T, t ∈ S) → S.Nodup → (∀ s ∈ S, s < o.length) → (∀ t ∈ T, at0 o t < 48) → 2 * kS (incs o S) T = kS o T
  | [], _, _, _, _ => rfl
  | t :: T, h, hn, hl, h8 => by
    have ih := kS_half T (fun x hx => h x (List.mem_cons_of_mem _ hx)) hn hl fun x hx => h8 x (List.mem_cons_of_mem _ hx)
    unfold kS at ih ⊢
    rw [sumS_cons, sumS_cons, Nat.mul_add, ih, incs_at S o hn hl, if_pos (h t List.mem_cons_self)]
    have h1 := h8 t List.mem_cons_self
    have e : 48 - at0 o t = (48 - (at0 o t + 1)) + 1 := by omega
    rw [e, Nat.pow_succ]
    omega
theorem Mrg.perm {F F' : List Nat} {c : Nat} (h : Mrg F c) (hp : F'.Perm F) : Mrg F' c := by
  cases h with
  | one a => rw [List.perm_singleton.1 hp]; exact .one a
  | none => rw [List.perm_nil.1 hp]; exact .none
  | step h hab hb hm => exact .step (hp.trans h) hab hb hm
/-- what the forest keeps -/
structure HI (f : List Nat) (F : List Tr) (o : List Nat) : Prop where
  len : o.length = f.length
  sy : (F.flatMap Prod.snd).Perm (syms f)
  wt : ∀ t ∈ F, t.1 = sumS (at0 f) t.2
  ze : ∀ s, at0 f s = 0 → at0 o s = 0
  kf : ∀ t ∈ F, kS o t.2 = 2 ^ 48
  fb : ∀ t ∈ F, ∃ d c, (∀ s ∈ t.2, at0 o s ≤ d) ∧ G (d + 1) ≤ t.1 ∧ G d ≤ c ∧ ∀ u ∈ F, c ≤ u.1
  mg : ∀ c, Mrg (F.map Prod.fst) c → Mrg ((syms f).map (at0 f)) (c + tot f o)
  ne : ∀ t ∈ F, t.2 ≠ [] ∧ (2 ≤ t.2.length → ∀ s ∈ t.2, 1 ≤ at0 o s)
theorem HI.perm {f o : List Nat} {F F' : List Tr} (h : HI f F o) (hp : F.Perm F') : HI f F' o where
  len := h.len
  sy := (hp.flatMap_right Prod.snd).symm.trans h.sy
  wt := fun t ht => h.wt t (hp.mem_iff.2 ht)
  ze := h.ze
  kf := fun t ht => h.kf t (hp.mem_iff.2 ht)
  fb := fun t ht => by
    obtain ⟨d, c, h1, h2, h3, h4⟩ := h.fb t (hp.mem_iff.2 ht)
    exact ⟨d, c, h1, h2, h3, fun u hu => h4 u (hp.mem_iff.2 hu)⟩
  mg := fun c hc => h.mg c (hc.perm (hp.map _))
  ne := fun t ht => h.ne t (hp.mem_iff.2 ht)
def leaf (f : List Nat) (s : Nat) : Tr := (at0 f s, [s])
theorem syms_nodup (f : List Nat) : (syms f).Nodup := List.nodup_range.filter _
theorem syms_mem {f : List Nat} {s : Nat} : s ∈ syms f ↔ 0 < at0 f s := by
  simp only [syms, List.mem_filter, List.mem_range, decide_eq_true_eq]
  exact ⟨fun h => h.2, fun h => ⟨at0_lt h, h⟩⟩
theorem at0_rep (n s : Nat) : at0 (List.replicate n 0) s = 0 := by
  rw [at0, List.getD_eq_getElem?_getD, List.getElem?_replicate]
  split <;> rfl
theorem tot_rep (f : List Nat) (n : Nat) : tot f (List.replicate n 0) = 0 := by
  unfold tot
  rw [sumS_congr (h := fun _ => 0) fun s _ => by rw [at0_rep, Nat.mul_zero]]
  unfold sumS
  generalize List.range f.length = l
  induction l with
  | nil => rfl
  | cons a l ih => rw [List.map_cons, List.sum_cons, ih]
theorem flat_leaf (f : List Nat) : ∀ (l : List Nat), (l.map (leaf f)).flatMap Prod.snd = l
  | [] => rfl
  | a :: l => by rw [List.map_cons, List.flatMap_cons, flat_leaf f l]; rfl
theorem HI.start (f : List Nat) : HI f ((syms f).map (leaf f)) (List.replicate f.length 0) where
  len := List.length_replicate
  sy := by rw [flat_leaf]
  wt := fun t ht => by
    obtain ⟨s, _, rfl⟩ := List.mem_map.1 ht
    simp [leaf, sumS]
  ze := fun s _ => at0_rep _ _
  kf := fun t ht => by
    obtain ⟨s, _, rfl⟩ := List.mem_map.1 ht
    simp [leaf, kS, sumS, at0_rep]
  fb := fun t ht => by
    obtain ⟨s, hs, rfl⟩ := List.mem_map.1 ht
    refine ⟨0, 1, fun x _ => by rw [at0_rep]; exact Nat.le_refl _, ?_, Nat.le_refl _, fun u hu => ?_⟩
    · exact syms_mem.1 hs
    · obtain ⟨x, hx, rfl⟩ := List.mem_map.1 hu
      exact syms_mem.1 hx
  mg := fun c hc => by
    rw [tot_rep, Nat.add_zero]
    rw [List.map_map] at hc
    exact hc
  ne := fun t ht => by
    obtain ⟨s, _, rfl⟩ := List.mem_map.1 ht
    exact ⟨by simp [leaf], fun h => by simp [leaf] at h⟩
theorem sum_le_of_mem {F : List Tr} {t : Tr} (h : t ∈ F) : t.1 ≤ (F.map Prod.fst).sum := by
  induction F with
  | nil => cases h
  | cons a F ih =>
    rw [List.map_cons, List.sum_cons]
    rcases List.mem_cons.1 h with rfl | h
    · omega
    · have := ih h
      omega
theorem HI.sum {f o : List Nat} : ∀ {F : List Tr}, (∀ t ∈ F, t.1 = sumS (at0 f) t.2) → (F.map Prod.fst).sum = sumS (at0 f) (F.flatMap Prod.snd)
  | [], _ => rfl
  | a :: F, h => by
    rw [List.map_cons, List.sum_cons, List.flatMap_cons, sumS_append, ← h a List.mem_cons_self, HI.sum (o := o) fun t ht => h t (List.mem_cons_of_mem _ ht)]
/-- no tree is deep -/
theorem HI.deep {f o : List Nat} {F : List Tr} (h : HI f F o) (hf : sumS (at0 f) (syms f) ≤ 268435456) {t : Tr} (ht : t ∈ F) {s : Nat} (hs : s ∈ t.2) : at0 o s < 47 := by
  obtain ⟨d, c, h1, h2, _, _⟩ := h.fb t ht
  have h3 := sum_le_of_mem ht
  rw [HI.sum (o := o) h.wt, sumS_perm h.sy] at h3
  have h4 := h1 s hs
  rcases Nat.lt_or_ge d 47 with h5 | h5
  · omega
  · have h6 := G_mono (show 48 ≤ d + 1 by omega)
    have h7 := G48
    omega
end Plain
end Go.Proofs.YtbfhhnpoogmlnaaDoor
