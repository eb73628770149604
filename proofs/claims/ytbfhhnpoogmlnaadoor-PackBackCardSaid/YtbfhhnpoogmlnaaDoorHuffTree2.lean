/- Huffman: one joining, and what stands at the end. -/
import Derived.Test.YtbfhhnpoogmlnaaDoorHuffTree
namespace Go.Proofs.YtbfhhnpoogmlnaaDoor
namespace Plain
set_option linter.unusedVariables false
theorem HI.step {f o : List Nat} {a b : Tr} {R : List Tr} (h : HI f (a :: b :: R) o) (hf : sumS (at0 f) (syms f) ≤ 268435456) (hab : a.1 ≤ b.1) (hb : ∀ r ∈ R, b.1 ≤ r.1) : HI f ((a.1 + b.1, a.2 ++ b.2) :: R) (incs o (a.2 ++ b.2)) := by
  have hfl : (a :: b :: R).flatMap Prod.snd = (a.2 ++ b.2) ++ R.flatMap Prod.snd := by rw [List.flatMap_cons, List.flatMap_cons, List.append_assoc]
  have hnd : ((a.2 ++ b.2) ++ R.flatMap Prod.snd).Nodup := by rw [← hfl]; exact h.sy.nodup_iff.2 (syms_nodup f)
  have hS : (a.2 ++ b.2).Nodup := (List.nodup_append.1 hnd).1
  have hdis : ∀ s, s ∈ a.2 ++ b.2 → ∀ t, t ∈ R.flatMap Prod.snd → s ≠ t := fun s hs t ht => (List.nodup_append.1 hnd).2.2 s hs t ht
  have hsy : ∀ s ∈ a.2 ++ b.2, 0 < at0 f s := fun s hs => syms_mem.1 (h.sy.mem_iff.1 (by rw [hfl]; exact List.mem_append_left _ hs))
  have hl : ∀ s ∈ a.2 ++ b.2, s < o.length := fun s hs => by rw [h.len]; exact at0_lt (hsy s hs)
  have ha : a ∈ a :: b :: R := List.mem_cons_self
  have hbm : b ∈ a :: b :: R := List.mem_cons_of_mem _ List.mem_cons_self
  have hR : ∀ r ∈ R, r ∈ a :: b :: R := fun r hr => List.mem_cons_of_mem _ (List.mem_cons_of_mem _ hr)
  have h47 : ∀ s ∈ a.2 ++ b.2, at0 o s < 48 := fun s hs => by
    rcases List.mem_append.1 hs with hs | hs
    · have := h.deep hf ha hs; omega
    · have := h.deep hf hbm hs; omega
  have hin : ∀ s ∈ a.2 ++ b.2, at0 (incs o (a.2 ++ b.2)) s = at0 o s + 1 := fun s hs => by rw [incs_at _ _ hS hl, if_pos hs]
  have hout : ∀ r ∈ R, ∀ s ∈ r.2, at0 (incs o (a.2 ++ b.2)) s = at0 o s := fun r hr s hs => by
    rw [incs_at _ _ hS hl, if_neg]
    exact fun hm => hdis s hm s (List.mem_flatMap.2 ⟨r, hr, hs⟩) rfl
  refine ⟨by rw [incs_len, h.len], ?_, ?_, ?_, ?_, ?_, ?_, ?_⟩
  · have := h.sy
    rw [hfl] at this
    exact this
  · intro t ht
    rcases List.mem_cons.1 ht with rfl | ht
    · show a.1 + b.1 = sumS (at0 f) (a.2 ++ b.2)
      rw [sumS_append, h.wt a ha, h.wt b hbm]
    · exact h.wt t (hR t ht)
  · intro s hs
    rw [incs_at _ _ hS hl, if_neg]
    · exact h.ze s hs
    · exact fun hm => by have := hsy s hm; omega
  · intro t ht
    rcases List.mem_cons.1 ht with rfl | ht
    · show kS (incs o (a.2 ++ b.2)) (a.2 ++ b.2) = 2 ^ 48
      have e1 := kS_half (o := o) (S := a.2 ++ b.2) a.2 (fun t ht => List.mem_append_left _ ht) hS hl fun t ht => h47 t (List.mem_append_left _ ht)
      have e2 := kS_half (o := o) (S := a.2 ++ b.2) b.2 (fun t ht => List.mem_append_right _ ht) hS hl fun t ht => h47 t (List.mem_append_right _ ht)
      rw [h.kf a ha] at e1
      rw [h.kf b hbm] at e2
      unfold kS at e1 e2 ⊢
      rw [sumS_append]
      omega
    · rw [← h.kf t (hR t ht)]
      unfold kS
      exact sumS_congr fun s hs => by rw [hout t ht s hs]
  · intro t ht
    obtain ⟨da, ca, a1, a2, a3, a4⟩ := h.fb a ha
    obtain ⟨db, cb, b1, b2, b3, b4⟩ := h.fb b hbm
    have a5 := a4 b hbm
    have b5 := b4 a ha
    rcases List.mem_cons.1 ht with rfl | ht
    · refine ⟨max da db + 1, b.1, fun s hs => ?_, ?_, ?_, fun u hu => ?_⟩
      · rw [hin s hs]
        rcases List.mem_append.1 hs with hs | hs
        · have := a1 s hs; omega
        · have := b1 s hs; omega
      · show G (max da db + 2) ≤ a.1 + b.1
        simp only [G]
        rcases Nat.le_total db da with hd | hd
        · rw [Nat.max_eq_left hd]; omega
        · rw [Nat.max_eq_right hd]; omega
      · rcases Nat.le_total db da with hd | hd
        · rw [Nat.max_eq_left hd]; omega
        · rw [Nat.max_eq_right hd]; omega
      · rcases List.mem_cons.1 hu with rfl | hu
        · show b.1 ≤ a.1 + b.1
          omega
        · exact hb u hu
    · obtain ⟨d, c, c1, c2, c3, c4⟩ := h.fb t (hR t ht)
      refine ⟨d, c, fun s hs => by rw [hout t ht s hs]; exact c1 s hs, c2, c3, fun u hu => ?_⟩
      rcases List.mem_cons.1 hu with rfl | hu
      · have := c4 a ha
        show c ≤ a.1 + b.1
        omega
      · exact c4 u (hR u hu)
  · intro c hc
    have h1 : Mrg ((a :: b :: R).map Prod.fst) (a.1 + b.1 + c) := .step (.refl _) hab (fun r hr => by obtain ⟨t, ht, rfl⟩ := List.mem_map.1 hr; exact hb t ht) hc
    have h2 := h.mg _ h1
    rw [tot_incs _ _ h.len hl, sumS_append, ← h.wt a ha, ← h.wt b hbm]
    have e : c + (tot f o + (a.1 + b.1)) = a.1 + b.1 + c + tot f o := by omega
    rw [e]
    exact h2
  · intro t ht
    rcases List.mem_cons.1 ht with rfl | ht
    · exact ⟨fun e => (h.ne a ha).1 (List.append_eq_nil_iff.1 e).1, fun _ s hs => by rw [hin s hs]; omega⟩
    · refine ⟨(h.ne t (hR t ht)).1, fun h2 s hs => ?_⟩
      rw [hout t ht s hs]
      exact (h.ne t (hR t ht)).2 h2 s hs
/-- what Lengths answers -/
structure FinH (f o : List Nat) : Prop where
  len : o.length = f.length
  pos : ∀ s, 0 < at0 f s ↔ 0 < at0 o s
  le : ∀ s, at0 o s ≤ 48
  kf : kS o (syms f) = if (syms f).length = 0 then 0 else if (syms f).length = 1 then 2 ^ 47 else 2 ^ 48
  opt : ∀ l : List Nat, (∀ s ∈ syms f, at0 l s ≤ 48) → kS l (syms f) ≤ 2 ^ 48 → ((syms f).length = 1 → ∀ s ∈ syms f, 1 ≤ at0 l s) → tot f o ≤ tot f l
theorem sumS_filter {g : Nat → Nat} (p : Nat → Bool) : ∀ (l : List Nat), sumS g (l.filter p) ≤ sumS g l
  | [] => Nat.le_refl _
  | a :: l => by
    have ih := sumS_filter (g := g) p l
    rw [sumS_cons]
    by_cases h : p a = true
    · rw [List.filter_cons_of_pos h, sumS_cons]; omega
    · rw [List.filter_cons_of_neg h]; omega
theorem kra_map (f l : List Nat) : ∀ (S : List Nat), kra 48 (S.map fun s => (at0 f s, at0 l s)) = kS l S
  | [] => rfl
  | s :: S => by simp only [List.map_cons, kra, kra_map f l S, kS, sumS_cons]
theorem cst_map (f l : List Nat) : ∀ (S : List Nat), cst (S.map fun s => (at0 f s, at0 l s)) = sumS (fun s => at0 f s * at0 l s) S
  | [] => rfl
  | s :: S => by simp only [List.map_cons, cst, cst_map f l S, sumS_cons]
theorem mrg_tot {f o l : List Nat} (h : Mrg ((syms f).map (at0 f)) (tot f o)) (h8 : ∀ s ∈ syms f, at0 l s ≤ 48) (hk : kS l (syms f) ≤ 2 ^ 48) : tot f o ≤ tot f l := by
  have h1 := mrg_least (K := 48) h ((syms f).map fun s => (at0 f s, at0 l s)) (by rw [List.map_map]; exact .refl _) (fun p hp => by
    obtain ⟨s, hs, rfl⟩ := List.mem_map.1 hp
    exact h8 s hs) (by rw [kra_map]; exact hk)
  rw [cst_map] at h1
  exact Nat.le_trans h1 (sumS_filter _ _)
theorem HI.many {f o : List Nat} {t : Tr} (h : HI f [t] o) (hf : sumS (at0 f) (syms f) ≤ 268435456) (h2 : 2 ≤ (syms f).length) : FinH f o := by
  have hsy := h.sy
  simp only [List.flatMap_cons, List.flatMap_nil, List.append_nil] at hsy
  have htm : t ∈ [t] := List.mem_singleton.2 rfl
  have hlen := hsy.length_eq
  refine ⟨h.len, fun s => ⟨fun hs => ?_, fun hs => ?_⟩, fun s => ?_, ?_, fun l h8 hk _ => ?_⟩
  · exact (h.ne t htm).2 (by omega) s (hsy.mem_iff.2 (syms_mem.2 hs))
  · rcases Nat.eq_zero_or_pos (at0 f s) with h0 | h0
    · rw [h.ze s h0] at hs; omega
    · exact h0
  · rcases Nat.eq_zero_or_pos (at0 f s) with h0 | h0
    · rw [h.ze s h0]; omega
    · have := h.deep hf htm (hsy.mem_iff.2 (syms_mem.2 h0))
      omega
  · rw [if_neg (by omega), if_neg (by omega), ← h.kf t htm]
    exact sumS_perm hsy.symm
  · have hm := h.mg 0 (.one t.1)
    rw [Nat.zero_add] at hm
    exact mrg_tot hm h8 hk
theorem FinH.none (f : List Nat) (h : (syms f).length = 0) : FinH f (List.replicate f.length 0) := by
  have hs : ∀ s, ¬ 0 < at0 f s := fun s hs => by
    have := syms_mem.2 hs
    rw [List.length_eq_zero_iff.1 h] at this
    cases this
  refine ⟨List.length_replicate, fun s => ⟨fun h => absurd h (hs s), fun h => by rw [at0_rep] at h; omega⟩, fun s => by rw [at0_rep]; omega, ?_, fun l _ _ _ => by rw [tot_rep]; exact Nat.zero_le _⟩
  rw [if_pos h, List.length_eq_zero_iff.1 h]
  rfl
theorem set_at {o : List Nat} {s v : Nat} (h : s < o.length) (t : Nat) : at0 (o.set s v) t = if t = s then v else at0 o t := by
  by_cases e : t = s
  · subst e
    rw [if_pos rfl, at0, List.getD_eq_getElem?_getD, List.getElem?_set_self h]
    rfl
  · rw [if_neg e, at0, List.getD_eq_getElem?_getD, List.getElem?_set_ne (Ne.symm e)]
    rfl
theorem tot_bump {f o o' : List Nat} {s d : Nat} (hs : s < f.length) (h1 : at0 o' s = at0 o s + d) (h2 : ∀ t, t ≠ s → at0 o' t = at0 o t) : tot f o' = tot f o + at0 f s * d := by
  unfold tot
  rw [sumS_bump (g := fun i => at0 f i * at0 o i) (s := s) (d := at0 f s * d) (by simp only [h1, Nat.mul_add]) (fun t ht => by simp only [h2 t ht]) _ List.nodup_range, if_pos (List.mem_range.2 hs)]
theorem FinH.one (f : List Nat) (s : Nat) (h : syms f = [s]) : FinH f ((List.replicate f.length 0).set s 1) := by
  have hs : 0 < at0 f s := syms_mem.1 (by rw [h]; exact List.mem_singleton.2 rfl)
  have hsl := at0_lt hs
  have hat : ∀ t, at0 ((List.replicate f.length 0).set s 1) t = if t = s then 1 else 0 := fun t => by rw [set_at (by rw [List.length_replicate]; exact hsl), at0_rep]
  refine ⟨by rw [List.length_set, List.length_replicate], fun t => ⟨fun ht => ?_, fun ht => ?_⟩, fun t => ?_, ?_, fun l _ _ h1 => ?_⟩
  · have := syms_mem.2 ht
    rw [h] at this
    rw [hat, if_pos (List.mem_singleton.1 this)]
    exact Nat.one_pos
  · rw [hat] at ht
    by_cases e : t = s
    · subst e; exact hs
    · rw [if_neg e] at ht; omega
  · rw [hat]; split <;> omega
  · rw [h]
    simp only [List.length_singleton, kS, sumS, List.map_cons, List.map_nil, List.sum_cons, List.sum_nil, hat, if_pos]
    decide +kernel
  · have e := tot_bump (f := f) (o := List.replicate f.length 0) (o' := (List.replicate f.length 0).set s 1) (s := s) (d := 1) hsl (by rw [hat, if_pos rfl, at0_rep]) (fun t ht => by rw [hat, if_neg ht, at0_rep])
    rw [e, tot_rep, Nat.zero_add, Nat.mul_one]
    have h2 := h1 (by rw [h]; rfl) s (by rw [h]; exact List.mem_singleton.2 rfl)
    have h3 : sumS (fun s => at0 f s * at0 l s) (syms f) ≤ tot f l := sumS_filter _ _
    rw [h, sumS_cons] at h3
    have h4 := Nat.mul_le_mul_left (at0 f s) h2
    omega
theorem kS_bump {o o' : List Nat} {S : List Nat} {s d : Nat} (hn : S.Nodup) (hs : s ∈ S) (h1 : 2 ^ (48 - at0 o' s) = 2 ^ (48 - at0 o s) + d) (h2 : ∀ t, t ≠ s → at0 o' t = at0 o t) : kS o' S = kS o S + d := by
  unfold kS
  rw [sumS_bump (g := fun s => 2 ^ (48 - at0 o s)) (s := s) (d := d) h1 (fun t ht => by rw [h2 t ht]) _ hn, if_pos hs]
/-- who is more frequent has no longer code -/
theorem FinH.mono {f o : List Nat} (h : FinH f o) {i j : Nat} (hj : 0 < at0 f j) (hij : at0 f j < at0 f i) : at0 o i ≤ at0 o j := by
  rcases Nat.lt_or_ge (at0 o j) (at0 o i) with hlt | hge
  · exfalso
    have hi : 0 < at0 f i := by omega
    have hil := at0_lt hi
    have hjl := at0_lt hj
    have hne : i ≠ j := fun e => by rw [e] at hij; omega
    have e1 : ∀ t, at0 (o.set i (at0 o j)) t = if t = i then at0 o j else at0 o t := set_at (by rw [h.len]; exact hil)
    have e2 : ∀ t, at0 ((o.set i (at0 o j)).set j (at0 o i)) t = if t = j then at0 o i else if t = i then at0 o j else at0 o t := fun t => by rw [set_at (by rw [List.length_set, h.len]; exact hjl), e1]
    obtain ⟨d, hd⟩ := Nat.exists_eq_add_of_lt hlt
    have t1 := tot_bump (f := f) (o := o.set i (at0 o j)) (o' := o) (s := i) (d := d + 1) hil (by rw [e1, if_pos rfl]; omega) (fun t ht => by rw [e1, if_neg ht])
    have t2 := tot_bump (f := f) (o := o.set i (at0 o j)) (o' := (o.set i (at0 o j)).set j (at0 o i)) (s := j) (d := d + 1) hjl (by rw [e2, if_pos rfl, e1, if_neg (Ne.symm hne)]; omega) (fun t ht => by rw [e2, if_neg ht, e1])
    have hp : 2 ^ (48 - at0 o i) ≤ 2 ^ (48 - at0 o j) := Nat.pow_le_pow_right (by decide) (by omega)
    obtain ⟨q, hq⟩ := Nat.exists_eq_add_of_le hp
    have k1 := kS_bump (o := o) (o' := o.set i (at0 o j)) (s := i) (d := q) (syms_nodup f) (syms_mem.2 hi) (by rw [e1, if_pos rfl]; exact hq) (fun t ht => by rw [e1, if_neg ht])
    have k2 := kS_bump (o := (o.set i (at0 o j)).set j (at0 o i)) (o' := o.set i (at0 o j)) (s := j) (d := q) (syms_nodup f) (syms_mem.2 hj) (by rw [e2, if_pos rfl, e1, if_neg (Ne.symm hne)]; exact hq) (fun t ht => by rw [e2, if_neg ht, e1])
    have hk : kS o (syms f) ≤ 2 ^ 48 := by
      rw [h.kf]
      split
      · exact Nat.zero_le _
      · split
        · exact Nat.pow_le_pow_right (by decide) (by decide)
        · exact Nat.le_refl _
    have ho := h.opt ((o.set i (at0 o j)).set j (at0 o i)) (fun s _ => by rw [e2]; split; exact h.le i; split; exact h.le j; exact h.le s) (by omega) (fun h1 => by
      obtain ⟨s, hs⟩ := List.length_eq_one_iff.1 h1
      have a1 := syms_mem.2 hi
      have a2 := syms_mem.2 hj
      rw [hs, List.mem_singleton] at a1 a2
      exact absurd (a1.trans a2.symm) hne)
    have hm : at0 f j * (d + 1) < at0 f i * (d + 1) := Nat.mul_lt_mul_of_pos_right hij (by omega)
    omega
  · exact hge
end Plain
end Go.Proofs.YtbfhhnpoogmlnaaDoor
