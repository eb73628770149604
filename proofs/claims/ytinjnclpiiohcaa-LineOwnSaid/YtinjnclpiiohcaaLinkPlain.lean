/- The plain law of sending over a lossy way: what a sender and a receiver know of each other. -/
namespace Go.Proofs.Ytinjnclpiiohcaa
namespace Plain
variable {α : Type}
/-- a packet: kind, number, text -/
abbrev Pkt (α : Type) := Int × Int × α
/-- how far a sender's base goes -/
def Adv (had : List Bool) (b b' : Nat) : Prop := b ≤ b' ∧ b' ≤ had.length ∧ (∀ i, b ≤ i → i < b' → had[i]? = some true) ∧ (b' = had.length ∨ had[b']? = some false)
theorem Adv.unique {had : List Bool} {b x y : Nat} (h : Adv had b x) (g : Adv had b y) : x = y := by
  obtain ⟨h1, h2, h3, h4⟩ := h
  obtain ⟨g1, g2, g3, g4⟩ := g
  rcases Nat.lt_trichotomy x y with hl | hl | hl
  · have := g3 x h1 hl
    rcases h4 with h4 | h4
    · omega
    · rw [this] at h4; cases h4
  · exact hl
  · have := h3 y g1 hl
    rcases g4 with g4 | g4
    · omega
    · rw [this] at g4; cases g4
/-- what a sender has behind a packet -/
def hear (had : List Bool) (p : Pkt α) : List Bool := if p.1 = 2 ∧ 0 ≤ p.2.1 ∧ p.2.1 < had.length then had.set p.2.1.toNat true else had
/-- the packets that a sender sends -/
def Sent (T : List α) (had : List Bool) (b : Nat) (out : List (Pkt α)) : Prop :=
  (∀ p ∈ out, p.1 = 1 ∧ (b : Int) ≤ p.2.1 ∧ p.2.1 < b + 8 ∧ T[p.2.1.toNat]? = some p.2.2) ∧ (∀ i, b ≤ i → i < b + 8 → i < T.length → had[i]? = some false → ∃ p ∈ out, p.2.1 = (i : Int)) ∧ out.length ≤ 8
/-- numbers that rise -/
def Rise (l : List (Pkt α)) : Prop := ∀ i j (_ : i < j) (h : j < l.length), (l[i]'(by omega)).2.1 < l[j].2.1
/-- a packet put in its place -/
def Put (l : List (Pkt α)) (p : Pkt α) (m : List (Pkt α)) : Prop := ∃ i, i ≤ l.length ∧ m = l.take i ++ p :: l.drop i ∧ (∀ q ∈ l.take i, q.2.1 < p.2.1) ∧ (∀ q ∈ l.drop i, p.2.1 < q.2.1)
theorem Put.unique {l m k : List (Pkt α)} {p : Pkt α} (h : Put l p m) (g : Put l p k) : m = k := by
  obtain ⟨i, hi, rfl, h1, h2⟩ := h
  obtain ⟨j, hj, rfl, g1, g2⟩ := g
  rcases Nat.lt_trichotomy i j with hl | hl | hl
  · have m1 : l[i]'(by omega) ∈ l.take j := List.mem_iff_getElem.2 ⟨i, by rw [List.length_take]; omega, by rw [List.getElem_take]⟩
    have m2 : l[i]'(by omega) ∈ l.drop i := List.mem_iff_getElem.2 ⟨0, by rw [List.length_drop]; omega, by rw [List.getElem_drop]; rfl⟩
    have := g1 _ m1
    have := h2 _ m2
    omega
  · rw [hl]
  · have m1 : l[j]'(by omega) ∈ l.take i := List.mem_iff_getElem.2 ⟨j, by rw [List.length_take]; omega, by rw [List.getElem_take]⟩
    have m2 : l[j]'(by omega) ∈ l.drop j := List.mem_iff_getElem.2 ⟨0, by rw [List.length_drop]; omega, by rw [List.getElem_drop]; rfl⟩
    have := h1 _ m1
    have := g2 _ m2
    omega
/-- so many of the held ones are next -/
def Drain (g : Nat) (l : List (Pkt α)) (k : Nat) : Prop := k ≤ l.length ∧ (∀ i (h : i < l.length), i < k → l[i].2.1 = (g : Int) + i) ∧ ∀ h : k < l.length, l[k].2.1 ≠ (g : Int) + k
theorem Drain.unique {g : Nat} {l : List (Pkt α)} {k m : Nat} (h : Drain g l k) (e : Drain g l m) : k = m := by
  rcases Nat.lt_trichotomy k m with hl | hl | hl
  · exact absurd (e.2.1 k (by have := e.1; omega) hl) (h.2.2 (by have := e.1; omega))
  · exact hl
  · exact absurd (h.2.1 m (by have := h.1; omega) hl) (e.2.2 (by have := h.1; omega))
/-- what a receiver has behind a packet, and what it answers -/
def Take (e : α) (got : List α) (held : List (Pkt α)) (p : Pkt α) (got' : List α) (held' more : List (Pkt α)) : Prop :=
  (¬ (p.1 = 1 ∧ 0 ≤ p.2.1 ∧ p.2.1 < (got.length : Int) + 8 ∧ p.2.1 < 2000) ∧ got' = got ∧ held' = held ∧ more = []) ∨
  (p.1 = 1 ∧ 0 ≤ p.2.1 ∧ p.2.1 < (got.length : Int) + 8 ∧ p.2.1 < 2000 ∧ more = [(2, p.2.1, e)] ∧ ∃ l k, (((p.2.1 < got.length ∨ ∃ q ∈ held, q.2.1 = p.2.1) ∧ l = held) ∨ ((got.length : Int) ≤ p.2.1 ∧ (¬ ∃ q ∈ held, q.2.1 = p.2.1) ∧ Put held p l)) ∧
    Drain got.length l k ∧ got' = got ++ (l.take k).map (fun q => q.2.2) ∧ held' = l.drop k)
theorem Take.unique {e : α} {got ga gb : List α} {held ha hb ma mb : List (Pkt α)} {p : Pkt α} (h : Take e got held p ga ha ma) (g : Take e got held p gb hb mb) : ga = gb ∧ ha = hb ∧ ma = mb := by
  rcases h with ⟨h1, rfl, rfl, rfl⟩ | ⟨h1, h2, h3, h4, rfl, l, k, h5, h6, rfl, rfl⟩
  · rcases g with ⟨g1, rfl, rfl, rfl⟩ | ⟨g1, g2, g3, g4, _⟩
    · exact ⟨rfl, rfl, rfl⟩
    · exact absurd ⟨g1, g2, g3, g4⟩ h1
  · rcases g with ⟨g1, rfl, rfl, rfl⟩ | ⟨g1, g2, g3, g4, rfl, m, j, g5, g6, rfl, rfl⟩
    · exact absurd ⟨h1, h2, h3, h4⟩ g1
    · have e1 : l = m := by
        rcases h5 with ⟨a, rfl⟩ | ⟨a, b, c⟩
        · rcases g5 with ⟨a', rfl⟩ | ⟨a', b', c'⟩
          · rfl
          · rcases a with a | a
            · omega
            · exact absurd a b'
        · rcases g5 with ⟨a', rfl⟩ | ⟨a', b', c'⟩
          · rcases a' with a' | a'
            · omega
            · exact absurd a' b
          · exact c.unique c'
      subst e1
      have := h6.unique g6
      subst this
      exact ⟨rfl, rfl, rfl⟩
/-- the receiver has it -/
def Rec (g : Nat) (held : List (Pkt α)) (i : Int) : Prop := i < g ∨ ∃ q ∈ held, q.2.1 = i
/-- a packet that may be on its way -/
def NetOk (T : List α) (g : Nat) (held : List (Pkt α)) (p : Pkt α) : Prop :=
  (p.1 = 1 ∧ 0 ≤ p.2.1 ∧ T[p.2.1.toNat]? = some p.2.2) ∨ (p.1 = 2 ∧ 0 ≤ p.2.1 ∧ Rec g held p.2.1)
structure LInv (T : List α) (had : List Bool) (b : Nat) (got : List α) (held : List (Pkt α)) : Prop where
  len : had.length = T.length
  adv : Adv had 0 b
  beg : got = T.take got.length
  gle : got.length ≤ T.length
  up : Rise held
  hld : ∀ q ∈ held, (got.length : Int) < q.2.1 ∧ q.2.1 < (got.length : Int) + 8 ∧ T[q.2.1.toNat]? = some q.2.2
  rcv : ∀ i : Nat, had[i]? = some true → Rec got.length held i
theorem rec_lt {T : List α} {had : List Bool} {b : Nat} {got : List α} {held : List (Pkt α)} (h : LInv T had b got held) {i : Int} (hr : Rec got.length held i) : i < T.length := by
  rcases hr with hr | ⟨q, hq, rfl⟩
  · have := h.gle; omega
  · obtain ⟨h1, _, h2⟩ := h.hld q hq
    have := (List.getElem?_eq_some_iff.1 h2).1
    omega
theorem LInv.base_le {T : List α} {had : List Bool} {b : Nat} {got : List α} {held : List (Pkt α)} (h : LInv T had b got held) : b ≤ got.length := by
  rcases Nat.lt_or_ge got.length b with hl | hl
  · exfalso
    have := h.rcv got.length (h.adv.2.2.1 _ (Nat.zero_le _) hl)
    rcases this with h1 | ⟨q, hq, e⟩
    · omega
    · have := (h.hld q hq).1
      omega
  · exact hl
theorem rise_le {l : List (Pkt α)} (h : Rise l) (g : Nat) (hg : ∀ q ∈ l, (g : Int) < q.2.1) : ∀ i (hi : i < l.length), (g : Int) + 1 + i ≤ l[i].2.1
  | 0, hi => by have := hg _ (List.getElem_mem hi); simp only [Int.natCast_zero]; omega
  | i + 1, hi => by
    have h1 := rise_le h g hg i (by omega)
    have h2 := h i (i + 1) (by omega) hi
    push_cast
    omega
theorem LInv.held_le {T : List α} {had : List Bool} {b : Nat} {got : List α} {held : List (Pkt α)} (h : LInv T had b got held) : held.length ≤ 7 := by
  rcases Nat.lt_or_ge 7 held.length with hl | hl
  · exfalso
    have h1 := rise_le h.up got.length (fun q hq => (h.hld q hq).1) 7 hl
    have h2 := (h.hld _ (List.getElem_mem hl)).2.1
    omega
  · exact hl
theorem LInv.start (T : List α) : LInv T (List.replicate T.length false) 0 [] [] where
  len := by simp
  adv := by
    refine ⟨Nat.le_refl _, Nat.zero_le _, fun i h1 h2 => by omega, ?_⟩
    rcases Nat.eq_zero_or_pos T.length with e | e
    · exact .inl (by simp [e])
    · exact .inr (by rw [List.getElem?_replicate, if_pos e])
  beg := by simp
  gle := Nat.zero_le _
  up := fun i j _ h => by simp at h
  hld := fun q h => by simp at h
  rcv := fun i h => by
    rw [List.getElem?_replicate] at h
    split at h <;> simp at h
theorem LInv.anew {T : List α} {had : List Bool} {b : Nat} {got : List α} {held : List (Pkt α)} (h : LInv T had b got held) : LInv T (List.replicate T.length false) 0 got held where
  len := by simp
  adv := (LInv.start T).adv
  beg := h.beg
  gle := h.gle
  up := h.up
  hld := h.hld
  rcv := fun i hi => by
    rw [List.getElem?_replicate] at hi
    split at hi <;> simp at hi
theorem hear_get {had : List Bool} {p : Pkt α} {i : Nat} (h : (hear had p)[i]? = some true) : had[i]? = some true ∨ (p.1 = 2 ∧ 0 ≤ p.2.1 ∧ p.2.1 = (i : Int)) := by
  unfold hear at h
  split at h
  · rename_i h1
    rw [List.getElem?_set] at h
    split at h
    · rename_i h2
      exact .inr ⟨h1.1, h1.2.1, by omega⟩
    · exact .inl h
  · exact .inl h
theorem hear_length (had : List Bool) (p : Pkt α) : (hear had p).length = had.length := by
  unfold hear
  split <;> simp
theorem hear_keep {had : List Bool} {p : Pkt α} {i : Nat} (h : had[i]? = some true) : (hear had p)[i]? = some true := by
  unfold hear
  split
  · rw [List.getElem?_set]
    split
    · rename_i h2
      subst h2
      rw [if_pos (List.getElem?_eq_some_iff.1 h).1]
    · exact h
  · exact h
theorem hear_has {had : List Bool} {p : Pkt α} (h1 : p.1 = 2) (h2 : 0 ≤ p.2.1) (h3 : p.2.1 < had.length) : (hear had p)[p.2.1.toNat]? = some true := by
  unfold hear
  rw [if_pos ⟨h1, h2, h3⟩, List.getElem?_set, if_pos rfl, if_pos (by omega)]
/-- a sender hears -/
theorem LInv.hears {T : List α} {had : List Bool} {b b' : Nat} {got : List α} {held : List (Pkt α)} {p : Pkt α} (h : LInv T had b got held) (hp : NetOk T got.length held p) (ha : Adv (hear had p) b b') : LInv T (hear had p) b' got held where
  len := by rw [hear_length, h.len]
  adv := by
    refine ⟨Nat.zero_le _, ha.2.1, fun i _ hi => ?_, ha.2.2.2⟩
    rcases Nat.lt_or_ge i b with hl | hl
    · exact hear_keep (h.adv.2.2.1 i (Nat.zero_le _) hl)
    · exact ha.2.2.1 i hl hi
  beg := h.beg
  gle := h.gle
  up := h.up
  hld := h.hld
  rcv := fun i hi => by
    rcases hear_get hi with hi | ⟨h1, h2, h3⟩
    · exact h.rcv i hi
    · rcases hp with ⟨e, _⟩ | ⟨_, _, hr⟩
      · omega
      · rwa [h3] at hr
theorem put_mem {l m : List (Pkt α)} {p : Pkt α} (h : Put l p m) (q : Pkt α) : q ∈ m ↔ q = p ∨ q ∈ l := by
  obtain ⟨i, _, rfl, _⟩ := h
  have : q ∈ l ↔ q ∈ l.take i ∨ q ∈ l.drop i := by
    rw [← List.mem_append, List.take_append_drop]
  rw [List.mem_append, List.mem_cons, this]
  constructor
  · rintro (h | h | h)
    · exact .inr (.inl h)
    · exact .inl h
    · exact .inr (.inr h)
  · rintro (h | h | h)
    · exact .inr (.inl h)
    · exact .inl h
    · exact .inr (.inr h)
theorem rise_pairs {l : List (Pkt α)} : Rise l ↔ l.Pairwise fun p q => p.2.1 < q.2.1 := by
  rw [List.pairwise_iff_getElem]
  exact ⟨fun h i j hi hj hij => h i j hij hj, fun h i j hij hj => h i j _ hj hij⟩
theorem put_rise {l m : List (Pkt α)} {p : Pkt α} (hl : Rise l) (h : Put l p m) : Rise m := by
  obtain ⟨i, _, rfl, h1, h2⟩ := h
  rw [rise_pairs] at hl ⊢
  rw [← List.take_append_drop i l, List.pairwise_append] at hl
  rw [List.pairwise_append, List.pairwise_cons]
  refine ⟨hl.1, ⟨h2, hl.2.1⟩, fun a ha c hc => ?_⟩
  rcases List.mem_cons.1 hc with rfl | hc
  · exact h1 a ha
  · exact hl.2.2 a ha c hc
theorem put_length {l m : List (Pkt α)} {p : Pkt α} (h : Put l p m) : m.length = l.length + 1 := by
  obtain ⟨i, hi, rfl, _⟩ := h
  simp only [List.length_append, List.length_cons, List.length_take, List.length_drop]
  omega
/-- the first held ones go over -/
theorem LInv.drains {T : List α} {had : List Bool} {b : Nat} {got : List α} {held l : List (Pkt α)} {k : Nat} (h : LInv T had b got held) (hr : Rise l) (hs : ∀ q ∈ held, q ∈ l) (hl : ∀ q ∈ l, (got.length : Int) ≤ q.2.1 ∧ q.2.1 < (got.length : Int) + 8 ∧ T[q.2.1.toNat]? = some q.2.2) (hd : Drain got.length l k) :
    LInv T had b (got ++ (l.take k).map fun q => q.2.2) (l.drop k) ∧ ∀ i : Int, (i < got.length ∨ ∃ q ∈ l, q.2.1 = i) → Rec (got ++ (l.take k).map fun q => q.2.2).length (l.drop k) i := by
  have hlen : (got ++ (l.take k).map fun q => q.2.2).length = got.length + k := by
    have := hd.1
    simp only [List.length_append, List.length_map, List.length_take]
    omega
  have hrec : ∀ i, (i < (got.length : Int) ∨ ∃ q ∈ l, q.2.1 = i) → Rec (got ++ (l.take k).map fun q => q.2.2).length (l.drop k) i := by
    intro i hi
    rw [hlen]
    rcases hi with hi | ⟨q, hq, rfl⟩
    · exact .inl (by omega)
    · obtain ⟨j, hj, rfl⟩ := List.mem_iff_getElem.1 hq
      rcases Nat.lt_or_ge j k with hk | hk
      · have := hd.2.1 j hj hk
        exact .inl (by omega)
      · exact .inr ⟨l[j], List.mem_iff_getElem.2 ⟨j - k, by rw [List.length_drop]; omega, by rw [List.getElem_drop]; congr 1; omega⟩, rfl⟩
  have hle : got.length + k ≤ T.length := by
    rcases Nat.eq_zero_or_pos k with e | e
    · have := h.gle; omega
    · have hk := hd.1
      have h1 := hd.2.1 (k - 1) (by omega) (by omega)
      have h2 := (hl _ (List.getElem_mem (show k - 1 < l.length by omega))).2.2
      have h3 := (List.getElem?_eq_some_iff.1 h2).1
      omega
  refine ⟨⟨h.len, h.adv, ?_, by rw [hlen]; exact hle, ?_, ?_, ?_⟩, hrec⟩
  · rw [hlen]
    apply List.ext_getElem?
    intro i
    rcases Nat.lt_or_ge i got.length with h1 | h1
    · rw [List.getElem?_append_left h1, List.getElem?_take, if_pos (by omega)]
      have e := congrArg (fun x : List α => x[i]?) h.beg
      simp only [List.getElem?_take, if_pos h1] at e
      exact e
    · rw [List.getElem?_append_right h1, List.getElem?_map, List.getElem?_take, List.getElem?_take]
      by_cases h2 : i < got.length + k
      · have hk := hd.1
        rw [if_pos (by omega), if_pos h2, List.getElem?_eq_getElem (show i - got.length < l.length by omega)]
        have e1 := hd.2.1 (i - got.length) (by omega) (by omega)
        have e2 := (hl _ (List.getElem_mem (show i - got.length < l.length by omega))).2.2
        rw [e1] at e2
        rw [show ((got.length : Int) + ((i - got.length : Nat) : Int)).toNat = i by omega] at e2
        rw [e2]
        rfl
      · rw [if_neg (by omega), if_neg h2]
        rfl
  · intro i j hij hj
    rw [List.length_drop] at hj
    rw [List.getElem_drop, List.getElem_drop]
    exact hr _ _ (by omega) (by omega)
  · intro q hq
    rw [hlen]
    obtain ⟨j, hj, rfl⟩ := List.mem_iff_getElem.1 hq
    rw [List.length_drop] at hj
    rw [List.getElem_drop]
    obtain ⟨a1, a2, a3⟩ := hl _ (List.getElem_mem (show k + j < l.length by omega))
    refine ⟨?_, by omega, a3⟩
    have hk := hd.2.2 (by omega)
    have hlow : (got.length : Int) + k ≤ (l[k]'(by omega)).2.1 := by
      rcases Nat.eq_zero_or_pos k with e | e
      · subst e
        have := (hl _ (List.getElem_mem (show 0 < l.length by omega))).1
        omega
      · have h1 := hd.2.1 (k - 1) (by omega) (by omega)
        have h2 := hr (k - 1) k (by omega) (by omega)
        omega
    rcases Nat.eq_zero_or_pos j with e | e
    · subst e
      simp only [Nat.add_zero] at a1 ⊢
      omega
    · have := hr k (k + j) (by omega) (by omega)
      omega
  · intro i hi
    apply hrec
    rcases h.rcv i hi with h1 | ⟨q, hq, e⟩
    · exact .inl h1
    · exact .inr ⟨q, hs q hq, e⟩
/-- a receiver takes -/
theorem LInv.takes {e : α} {T : List α} {had : List Bool} {b : Nat} {got got' : List α} {held held' more : List (Pkt α)} {p : Pkt α} (h : LInv T had b got held) (hp : p.1 = 1 → 0 ≤ p.2.1 ∧ T[p.2.1.toNat]? = some p.2.2) (ht : Take e got held p got' held' more) :
    LInv T had b got' held' ∧ (∀ i, Rec got.length held i → Rec got'.length held' i) ∧ (∀ q ∈ more, q.1 = 2 ∧ 0 ≤ q.2.1 ∧ Rec got'.length held' q.2.1) ∧ more.length ≤ 1 := by
  rcases ht with ⟨_, rfl, rfl, rfl⟩ | ⟨h1, h2, h3, h4, rfl, l, k, h5, h6, rfl, rfl⟩
  · exact ⟨h, fun i hi => hi, fun q hq => by simp at hq, by simp⟩
  · have hpt := (hp h1).2
    have key : Rise l ∧ (∀ q ∈ held, q ∈ l) ∧ (∀ q ∈ l, (got.length : Int) ≤ q.2.1 ∧ q.2.1 < (got.length : Int) + 8 ∧ T[q.2.1.toNat]? = some q.2.2) ∧ (p.2.1 < got.length ∨ ∃ q ∈ l, q.2.1 = p.2.1) := by
      rcases h5 with ⟨a, rfl⟩ | ⟨a, a2, c⟩
      · exact ⟨h.up, fun q hq => hq, fun q hq => by have := h.hld q hq; exact ⟨by omega, this.2⟩, a⟩
      · refine ⟨put_rise h.up c, fun q hq => (put_mem c q).2 (.inr hq), fun q hq => ?_, .inr ⟨p, (put_mem c p).2 (.inl rfl), rfl⟩⟩
        rcases (put_mem c q).1 hq with rfl | hq
        · exact ⟨a, h3, hpt⟩
        · have := h.hld q hq
          exact ⟨by omega, this.2⟩
    obtain ⟨k1, k2, k3, k4⟩ := key
    obtain ⟨r1, r2⟩ := h.drains k1 k2 k3 h6
    refine ⟨r1, fun i hi => r2 i ?_, fun q hq => ?_, by simp⟩
    · rcases hi with hi | ⟨q, hq, e⟩
      · exact .inl hi
      · exact .inr ⟨q, k2 q hq, e⟩
    · simp only [List.mem_singleton] at hq
      subst hq
      exact ⟨rfl, h2, r2 _ k4⟩
theorem NetOk.keep {T : List α} {g g' : Nat} {held held' : List (Pkt α)} {p : Pkt α} (h : NetOk T g held p) (hr : ∀ i, Rec g held i → Rec g' held' i) : NetOk T g' held' p := by
  rcases h with h | ⟨h1, h2, h3⟩
  · exact .inl h
  · exact .inr ⟨h1, h2, hr _ h3⟩
/-- all packets of a round -/
theorem Sent.ok {T : List α} {had : List Bool} {b g : Nat} {held out : List (Pkt α)} (h : Sent T had b out) : ∀ p ∈ out, NetOk T g held p := fun p hp => by
  obtain ⟨h1, h2, _, h3⟩ := h.1 p hp
  exact .inl ⟨h1, by omega, h3⟩
/-- a round brings the base on by eight -/
theorem round_on {T : List α} {h0 had : List Bool} {b0 b : Nat} {got : List α} {held out : List (Pkt α)} (hs : Sent T h0 b0 out) (h : LInv T had b got held) (h0l : h0.length = T.length) (hk : ∀ i : Nat, h0[i]? = some true → had[i]? = some true) (hb : b0 ≤ b) (ho : ∀ p ∈ out, had[p.2.1.toNat]? = some true) : b0 + 8 ≤ b ∨ b = T.length := by
  rcases h.adv.2.2.2 with e | e
  · exact .inr (by rw [e, h.len])
  · rcases Nat.lt_or_ge b (b0 + 8) with hl | hl
    · have hbt : b < T.length := by
        have := (List.getElem?_eq_some_iff.1 e).1
        rw [h.len] at this
        exact this
      exfalso
      have hb0 : h0[b]? = some true ∨ h0[b]? = some false := by
        rw [List.getElem?_eq_getElem (by omega)]
        cases h0[b]'(by omega) <;> simp
      rcases hb0 with h1 | h1
      · rw [hk b h1] at e; cases e
      · obtain ⟨p, hp, he⟩ := hs.2.1 b hb hl hbt h1
        have := ho p hp
        rw [he] at this
        simp only [Int.toNat_natCast] at this
        rw [this] at e; cases e
    · exact .inl hl
theorem LInv.whole {T : List α} {had : List Bool} {b : Nat} {got : List α} {held : List (Pkt α)} (h : LInv T had b got held) (hb : b = T.length) : got = T := by
  have h1 := h.base_le
  have h2 := h.gle
  have h3 := h.beg
  rw [List.take_of_length_le (by omega)] at h3
  exact h3
end Plain
end Go.Proofs.Ytinjnclpiiohcaa
