/- The plain law of the whole way: what a step does, and what stays true. -/
import Derived.Test.YtinjnclpiiohcaaLinkPlain
namespace Go.Proofs.Ytinjnclpiiohcaa
namespace Plain
variable {α : Type}
structure LSt (α : Type) where
  had : List Bool
  b : Nat
  got : List α
  held : List (Pkt α)
  net : List (Pkt α)
def LSt.Ok (T : List α) (s : LSt α) : Prop := LInv T s.had s.b s.got s.held ∧ ∀ p ∈ s.net, NetOk T s.got.length s.held p
def LSt.start (T : List α) : LSt α := ⟨List.replicate T.length false, 0, [], [], []⟩
theorem LSt.start_ok (T : List α) : (LSt.start T).Ok T := ⟨LInv.start T, fun p hp => by simp [LSt.start] at hp⟩
/-- a packet arrives -/
def Arr (e : α) (p : Pkt α) (s s' : LSt α) : Prop :=
  (p.1 = 2 ∧ ∃ b', Adv (hear s.had p) s.b b' ∧ s' = ⟨hear s.had p, b', s.got, s.held, s.net⟩) ∨
  (p.1 ≠ 2 ∧ ∃ got held more, Take e s.got s.held p got held more ∧ s' = ⟨s.had, s.b, got, held, s.net ++ more⟩)
theorem Arr.ok {e : α} {T : List α} {p : Pkt α} {s s' : LSt α} (h : Arr e p s s') (hs : s.Ok T) (hp : NetOk T s.got.length s.held p) : s'.Ok T ∧ s'.net.length ≤ s.net.length + 1 := by
  rcases h with ⟨_, b', ha, rfl⟩ | ⟨hk, got, held, more, ht, rfl⟩
  · exact ⟨⟨hs.1.hears hp ha, hs.2⟩, Nat.le_succ _⟩
  · have hd : p.1 = 1 → 0 ≤ p.2.1 ∧ T[p.2.1.toNat]? = some p.2.2 := fun _ => by
      rcases hp with hp | hp
      · exact hp.2
      · exact absurd hp.1 hk
    obtain ⟨h1, h2, h3, h4⟩ := hs.1.takes hd ht
    refine ⟨⟨h1, fun q hq => ?_⟩, by simp only [List.length_append]; omega⟩
    rcases List.mem_append.1 hq with hq | hq
    · exact (hs.2 q hq).keep h2
    · exact .inr (h3 q hq)
/-- a step by a number -/
def Moved (e : α) (T : List α) (k : Nat) (s s' : LSt α) : Prop :=
  (k = 0 ∧ ∃ out, Sent T s.had s.b out ∧ out.length + s.b ≤ T.length ∧ s' = ⟨s.had, s.b, s.got, s.held, s.net ++ out⟩) ∨
  (k = 1 ∧ s' = ⟨List.replicate T.length false, 0, s.got, s.held, s.net⟩) ∨
  (k ≠ 0 ∧ s.net = [] ∧ s' = s) ∨
  (k ≠ 0 ∧ ∃ (i : Nat) (h : i < s.net.length) (s1 : LSt α), (((k = 2 ∨ k = 3) ∧ s1 = s) ∨ (k ≠ 2 ∧ k ≠ 3 ∧ s1 = ⟨s.had, s.b, s.got, s.held, s.net.take i ++ s.net.drop (i + 1)⟩)) ∧ ((k = 4 ∧ s' = s1) ∨ (k ≠ 4 ∧ Arr e s.net[i] s1 s')))
theorem Moved.ok {e : α} {T : List α} {k : Nat} {s s' : LSt α} (h : Moved e T k s s') (hs : s.Ok T) : s'.Ok T ∧ s'.net.length ≤ s.net.length + 8 := by
  rcases h with ⟨_, out, ho, _, rfl⟩ | ⟨_, rfl⟩ | ⟨_, _, rfl⟩ | ⟨_, i, hi, s1, h1, h2⟩
  · refine ⟨⟨hs.1, fun q hq => ?_⟩, by have := ho.2.2; simp only [List.length_append]; omega⟩
    rcases List.mem_append.1 hq with hq | hq
    · exact hs.2 q hq
    · exact ho.ok q hq
  · exact ⟨⟨hs.1.anew, hs.2⟩, by simp⟩
  · exact ⟨hs, by omega⟩
  · have hs1 : s1.Ok T ∧ s1.net.length ≤ s.net.length ∧ s1.got = s.got ∧ s1.held = s.held := by
      rcases h1 with ⟨_, rfl⟩ | ⟨_, _, rfl⟩
      · exact ⟨hs, Nat.le_refl _, rfl, rfl⟩
      · refine ⟨⟨hs.1, fun q hq => hs.2 q ?_⟩, by simp only [List.length_append, List.length_take, List.length_drop]; omega, rfl, rfl⟩
        rcases List.mem_append.1 hq with hq | hq
        · exact List.mem_of_mem_take hq
        · exact List.mem_of_mem_drop hq
    obtain ⟨a1, a2, a3, a4⟩ := hs1
    rcases h2 with ⟨_, rfl⟩ | ⟨_, h2⟩
    · exact ⟨a1, by omega⟩
    · obtain ⟨c1, c2⟩ := h2.ok a1 (by rw [a3, a4]; exact hs.2 _ (List.getElem_mem hi))
      exact ⟨c1, by omega⟩
/-- one text comes over -/
theorem lined_sent {e a : α} {s : LSt α} (h : Moved e [a] 0 (LSt.start [a]) s) : s.net.length = 1 := by
  rcases h with ⟨_, out, ho, hl, rfl⟩ | ⟨h0, _⟩ | ⟨h0, _⟩ | ⟨h0, _⟩
  · obtain ⟨p, hp, _⟩ := ho.2.1 0 (Nat.le_refl _) (by simp [LSt.start]) (by simp) (by simp [LSt.start])
    have := List.length_pos_of_mem hp
    simp only [LSt.start, List.length_append, List.length_nil, List.length_cons] at hl ⊢
    omega
  · omega
  · exact absurd rfl h0
  · exact absurd rfl h0
theorem lined_got {e a : α} {s s' : LSt α} (h : Moved e [a] 0 (LSt.start [a]) s) (h2 : Moved e [a] 8 s s') : s'.got = [a] := by
  have hl1 := lined_sent h
  rcases h with ⟨_, out, ho, hl, rfl⟩ | ⟨h0, _⟩ | ⟨h0, _⟩ | ⟨h0, _⟩
  · obtain ⟨p, hp, hp0⟩ := ho.2.1 0 (Nat.le_refl _) (by simp [LSt.start]) (by simp) (by simp [LSt.start])
    obtain ⟨x, rfl⟩ : ∃ x, out = [x] := by
      simp only [LSt.start, List.nil_append] at hl1
      exact List.length_eq_one_iff.1 hl1
    simp only [List.mem_singleton] at hp
    subst hp
    obtain ⟨b1, _, _, b4⟩ := ho.1 p (List.mem_singleton.2 rfl)
    rw [hp0] at b4
    simp only [Int.natCast_zero, Int.toNat_zero, List.getElem?_cons_zero, Option.some.injEq] at b4 hp0
    rcases h2 with ⟨h0, _⟩ | ⟨h0, _⟩ | ⟨_, h0, _⟩ | ⟨_, i, hi, s1, h1, h2⟩
    · omega
    · omega
    · simp [LSt.start] at h0
    · simp only [LSt.start, List.nil_append, List.length_singleton] at hi
      obtain rfl : i = 0 := by omega
      rcases h1 with ⟨h1, _⟩ | ⟨_, _, rfl⟩
      · omega
      · rcases h2 with ⟨h2, _⟩ | ⟨_, h2⟩
        · omega
        · simp only [LSt.start, List.nil_append, List.getElem_cons_zero] at h2
          rcases h2 with ⟨hk, _⟩ | ⟨_, got, held, more, ht, rfl⟩
          · omega
          · rcases ht with ⟨hn, _⟩ | ⟨_, _, _, _, _, l, k, h5, h6, rfl, _⟩
            · exact absurd ⟨b1, by omega, by simp only [List.length_nil]; omega, by omega⟩ hn
            · rcases h5 with ⟨hh, _⟩ | ⟨_, _, i, hi', rfl, _⟩
              · rcases hh with hh | ⟨q, hq, _⟩
                · simp only [List.length_nil] at hh; omega
                · simp at hq
              · simp only [List.length_nil, Nat.le_zero_eq] at hi'
                subst hi'
                simp only [List.take_nil, List.drop_nil, List.nil_append] at h6 ⊢
                have hk1 := h6.1
                simp only [List.length_singleton] at hk1
                rcases Nat.eq_zero_or_pos k with hk | hk
                · subst hk
                  have := h6.2.2 (by simp)
                  simp only [List.getElem_cons_zero, List.length_nil] at this
                  omega
                · obtain rfl : k = 1 := by omega
                  simp [b4]
  · omega
  · exact absurd rfl h0
  · exact absurd rfl h0
/-- a round, so far -/
structure RR (e : α) (T : List α) (h0 : List Bool) (b0 : Nat) (out : List (Pkt α)) (j : Nat) (s : LSt α) : Prop where
  ok : s.Ok T
  net : s.net = out ++ (out.take j).map fun p => (2, p.2.1, e)
  has : ∀ m (hm : m < out.length), m + out.length < j → s.had[out[m].2.1.toNat]? = some true
  keep : ∀ i : Nat, h0[i]? = some true → s.had[i]? = some true
  base : b0 ≤ s.b
  le : j ≤ s.net.length
theorem RR.start {e : α} {T : List α} {s s' : LSt α} (hs : s.Ok T) (h : Moved e T 0 ⟨s.had, s.b, s.got, s.held, []⟩ s') : ∃ out, Sent T s.had s.b out ∧ RR e T s.had s.b out 0 s' := by
  have hok := (h.ok (T := T) ⟨hs.1, fun p hp => by simp at hp⟩).1
  rcases h with ⟨_, out, ho, _, rfl⟩ | ⟨h0, _⟩ | ⟨h0, _⟩ | ⟨h0, _⟩
  · exact ⟨out, ho, ⟨hok, by simp, fun m hm h => by omega, fun i h => h, Nat.le_refl _, Nat.zero_le _⟩⟩
  · omega
  · exact absurd rfl h0
  · exact absurd rfl h0
theorem RR.next {e : α} {T : List α} {h0 : List Bool} {b0 j : Nat} {out : List (Pkt α)} {s s' : LSt α} (h : RR e T h0 b0 out j s) (hT : T.length ≤ 2000) (ho : Sent T h0 b0 out) (hj : j < s.net.length) (ha : Arr e s.net[j] s s') : RR e T h0 b0 out (j + 1) s' := by
  have hok := (ha.ok h.ok (h.ok.2 _ (List.getElem_mem hj))).1
  have hbl := h.ok.1.base_le
  have hbs := h.base
  rcases Nat.lt_or_ge j out.length with hl | hl
  · have hp : s.net[j] = out[j] := by
      have : s.net[j]? = some out[j] := by rw [h.net, List.getElem?_append_left hl, List.getElem?_eq_getElem hl]
      rw [List.getElem?_eq_getElem hj] at this
      exact Option.some.inj this
    rw [hp] at ha
    obtain ⟨c1, c2, c3, c4⟩ := ho.1 _ (List.getElem_mem hl)
    rcases ha with ⟨hk, _⟩ | ⟨_, got, held, more, ht, rfl⟩
    · omega
    · have c5 := (List.getElem?_eq_some_iff.1 c4).1
      rcases ht with ⟨hn, _⟩ | ⟨_, _, _, _, rfl, _⟩
      · exact absurd ⟨c1, by omega, by omega, by omega⟩ hn
      · refine ⟨hok, ?_, fun m hm h1 => h.has m hm (by omega), h.keep, h.base, by simp only [List.length_append, List.length_singleton]; omega⟩
        rw [List.take_succ_eq_append_getElem hl, List.map_append, ← List.append_assoc, ← h.net]
        rfl
  · have hnl : s.net.length = out.length + out.length := by
      rw [h.net, List.length_append, List.length_map, List.length_take, Nat.min_eq_right hl]
    have hm : j - out.length < out.length := by omega
    have hp : s.net[j] = (2, (out[j - out.length]).2.1, e) := by
      have : s.net[j]? = some (2, (out[j - out.length]).2.1, e) := by
        rw [h.net, List.getElem?_append_right hl, List.getElem?_map, List.getElem?_take, if_pos (by omega), List.getElem?_eq_getElem hm]
        rfl
      rw [List.getElem?_eq_getElem hj] at this
      exact Option.some.inj this
    rw [hp] at ha
    obtain ⟨c1, c2, c3, c4⟩ := ho.1 _ (List.getElem_mem hm)
    have c5 := (List.getElem?_eq_some_iff.1 c4).1
    rcases ha with ⟨_, b', hb, rfl⟩ | ⟨hk, _⟩
    · refine ⟨hok, ?_, fun m hm2 h1 => ?_, fun i hi => hear_keep (h.keep i hi), Nat.le_trans h.base hb.1, by simp only; omega⟩
      · show s.net = _
        rw [h.net, List.take_of_length_le hl, List.take_of_length_le (by omega)]
      · rcases Nat.lt_or_ge (m + out.length) j with h2 | h2
        · exact hear_keep (h.has m hm2 h2)
        · obtain rfl : m = j - out.length := by omega
          exact hear_has (p := (2, (out[j - out.length]).2.1, e)) rfl (by simp only; omega) (by simp only; rw [h.ok.1.len]; omega)
    · exact absurd rfl hk
theorem RR.fin {e : α} {T : List α} {h0 : List Bool} {b0 j : Nat} {out : List (Pkt α)} {s : LSt α} (h : RR e T h0 b0 out j s) (h0l : h0.length = T.length) (ho : Sent T h0 b0 out) (hj : ¬ j < s.net.length) : b0 + 8 ≤ s.b ∨ s.b = T.length := by
  have hnl : s.net.length = out.length + min j out.length := by
    rw [h.net, List.length_append, List.length_map, List.length_take]
  refine round_on ho h.ok.1 h0l h.keep h.base fun p hp => ?_
  obtain ⟨m, hm, rfl⟩ := List.mem_iff_getElem.1 hp
  exact h.has m hm (by omega)
end Plain
end Go.Proofs.Ytinjnclpiiohcaa
