/- Plain laws of an index's text: a place's bytes, written and read. -/
import Derived.Test.YtinjnclpiiohcaaDoorNumPlain
namespace Go.Proofs.YtinjnclpiiohcaaDoor
namespace Plain
/-- a place: identifier's bytes, kind, pack, at, length -/
abbrev Rec := List Nat × Nat × Nat × Nat × Nat
/-- its bytes -/
def Enc (r : Rec) (s : List Nat) : Prop := ∃ a b c, r.1.length = 8 ∧ Num r.2.2.1 a ∧ Num r.2.2.2.1 b ∧ Num r.2.2.2.2 c ∧ s = r.1 ++ r.2.1 :: (a ++ (b ++ c))
theorem Enc.unique {r : Rec} {s t : List Nat} (h : Enc r s) (g : Enc r t) : s = t := by
  obtain ⟨a, b, c, _, ha, hb, hc, rfl⟩ := h
  obtain ⟨a', b', c', _, ha', hb', hc', rfl⟩ := g
  rw [ha.unique ha', hb.unique hb', hc.unique hc']
/-- a number not above the greatest -/
def getM (s : List Nat) : Option (Nat × List Nat) :=
  if (getN s).2.2 = 0 ∧ (getN s).1 ≤ 1099511627776 then some ((getN s).1, s.drop (getN s).2.1) else none
theorem getM_num {n : Nat} {p : List Nat} (h : Num n p) (hn : n ≤ 1099511627776) (more : List Nat) : getM (p ++ more) = some (n, more) := by
  unfold getM
  rw [getN_num h more, if_pos ⟨rfl, hn⟩, List.drop_left]
theorem getM_back {s t : List Nat} (hs : ∀ c ∈ s, c < 256) {n : Nat} (h : getM s = some (n, t)) : n ≤ 1099511627776 ∧ ∃ p, Num n p ∧ s = p ++ t := by
  unfold getM at h
  split at h
  · rename_i h1
    simp only [Option.some.injEq, Prod.mk.injEq] at h
    obtain ⟨rfl, rfl⟩ := h
    refine ⟨h1.2, s.take (getN s).2.1, (getN_back hs (n := (getN s).1) (k := (getN s).2.1) ?_).2, (List.take_append_drop _ _).symm⟩
    rw [← h1.1]
  · cases h
/-- one place read -/
def getR (s : List Nat) : Option (Rec × List Nat) :=
  if s.length < 9 then none else
  match getM (s.drop 9) with
  | none => none
  | some (a, s1) => match getM s1 with
    | none => none
    | some (b, s2) => match getM s2 with
      | none => none
      | some (c, s3) => some ((s.take 8, s.getD 8 0, a, b, c), s3)
theorem getR_enc {r : Rec} {f : List Nat} (h : Enc r f) (h1 : r.2.2.1 ≤ 1099511627776) (h2 : r.2.2.2.1 ≤ 1099511627776) (h3 : r.2.2.2.2 ≤ 1099511627776) (more : List Nat) : getR (f ++ more) = some (r, more) := by
  obtain ⟨a, b, c, h8, ha, hb, hc, rfl⟩ := h
  obtain ⟨i, k, x, y, z⟩ := r
  simp only at h8 ha hb hc h1 h2 h3 ⊢
  have e : (i ++ k :: (a ++ (b ++ c))) ++ more = i ++ (k :: (a ++ (b ++ (c ++ more)))) := by simp
  have d9 : (i ++ (k :: (a ++ (b ++ (c ++ more))))).drop 9 = a ++ (b ++ (c ++ more)) := by
    rw [List.drop_append, List.drop_of_length_le (by omega), h8]; rfl
  have t8 : (i ++ (k :: (a ++ (b ++ (c ++ more))))).take 8 = i := by rw [← h8, List.take_left]
  have g8 : (i ++ (k :: (a ++ (b ++ (c ++ more))))).getD 8 0 = k := by
    rw [List.getD_eq_getElem?_getD, List.getElem?_append_right (by omega), h8]; rfl
  unfold getR
  rw [e, if_neg (by rw [List.length_append, List.length_cons]; omega), d9, getM_num ha h1]
  simp only
  rw [getM_num hb h2]
  simp only
  rw [getM_num hc h3]
  simp only [t8, g8]
theorem getR_back {s t : List Nat} (hs : ∀ c ∈ s, c < 256) {r : Rec} (h : getR s = some (r, t)) : ∃ f, Enc r f ∧ s = f ++ t ∧ r.2.1 < 256 ∧ (∀ c ∈ r.1, c < 256) ∧ r.2.2.1 ≤ 1099511627776 ∧ r.2.2.2.1 ≤ 1099511627776 ∧ r.2.2.2.2 ≤ 1099511627776 := by
  unfold getR at h
  split at h
  · cases h
  · rename_i h9
    split at h
    · cases h
    · rename_i a s1 e1
      split at h
      · cases h
      · rename_i b s2 e2
        split at h
        · cases h
        · rename_i c s3 e3
          simp only [Option.some.injEq, Prod.mk.injEq] at h
          obtain ⟨rfl, rfl⟩ := h
          have hd : ∀ c ∈ s.drop 9, c < 256 := fun c hc => hs c (List.mem_of_mem_drop hc)
          obtain ⟨ha, p, hp, e4⟩ := getM_back hd e1
          have hd1 : ∀ c ∈ s1, c < 256 := fun c hc => hd c (by rw [e4]; exact List.mem_append_right _ hc)
          obtain ⟨hb, q, hq, e5⟩ := getM_back hd1 e2
          have hd2 : ∀ c ∈ s2, c < 256 := fun c hc => hd1 c (by rw [e5]; exact List.mem_append_right _ hc)
          obtain ⟨hc, u, hu, e6⟩ := getM_back hd2 e3
          have h8 : 8 < s.length := by omega
          refine ⟨s.take 8 ++ s.getD 8 0 :: (p ++ (q ++ u)), ⟨p, q, u, by rw [List.length_take]; omega, hp, hq, hu, rfl⟩, ?_, ?_, fun c hc => hs c (List.mem_of_mem_take hc), ha, hb, hc⟩
          · conv => lhs; rw [← List.take_append_drop 8 s, List.drop_eq_getElem_cons h8, e4, e5, e6]
            rw [List.getD_eq_getElem?_getD, List.getElem?_eq_getElem h8]
            simp
          · rw [List.getD_eq_getElem?_getD, List.getElem?_eq_getElem h8]
            exact hs _ (List.getElem_mem h8)
/-- the bytes of places one behind the other -/
inductive Encs : List Rec → List Nat → Prop
  | nil : Encs [] []
  | snoc {l : List Rec} {r : Rec} {t f : List Nat} : Encs l t → Enc r f → Encs (l ++ [r]) (t ++ f)
theorem Encs.cons {l : List Rec} {t : List Nat} (h : Encs l t) : ∀ {s f}, Enc s f → Encs (s :: l) (f ++ t) := by
  induction h with
  | nil => intro s f hf; have := Encs.snoc Encs.nil hf; simpa using this
  | snoc h1 h2 ih => intro s f hf; have := Encs.snoc (ih hf) h2; simpa using this
theorem Encs.nil_eq {m : List Rec} {t : List Nat} (h : Encs m t) : m = [] → t = [] := by
  cases h with
  | nil => intro _; rfl
  | snoc _ _ => intro e; simp at e
/-- numbers that may be written -/
def RecOk (r : Rec) : Prop := r.2.2.1 ≤ 1099511627776 ∧ r.2.2.2.1 ≤ 1099511627776 ∧ r.2.2.2.2 ≤ 1099511627776
/-- so many places read -/
inductive Rds : Nat → List Nat → List Rec → List Nat → Prop
  | nil {s : List Nat} : Rds 0 s [] s
  | snoc {n : Nat} {s u t : List Nat} {l : List Rec} {r : Rec} : Rds n s l u → getR u = some (r, t) → Rds (n + 1) s (l ++ [r]) t
theorem Rds.unique {n : Nat} {s t : List Nat} {l : List Rec} (h : Rds n s l t) : ∀ {m : List Rec} {u : List Nat}, Rds n s m u → l = m ∧ t = u := by
  induction h with
  | nil => intro m u g; cases g; exact ⟨rfl, rfl⟩
  | snoc _ h2 ih =>
    intro m u g
    cases g with
    | snoc g1 g2 =>
      obtain ⟨rfl, rfl⟩ := ih g1
      rw [h2] at g2
      cases g2
      exact ⟨rfl, rfl⟩
theorem Rds.length {n : Nat} {s t : List Nat} {l : List Rec} (h : Rds n s l t) : l.length = n := by
  induction h with
  | nil => rfl
  | snoc _ _ ih => rw [List.length_append, ih]; rfl
/-- what was written is read -/
theorem Encs.rds {l : List Rec} {f : List Nat} (h : Encs l f) : (∀ r ∈ l, RecOk r) → ∀ more, Rds l.length (f ++ more) l more := by
  induction h with
  | nil => intro _ more; exact .nil
  | snoc h1 h2 ih =>
    intro hok more
    rw [List.length_append, List.append_assoc]
    obtain ⟨b1, b2, b3⟩ := hok _ (List.mem_append_right _ (List.mem_singleton.2 rfl))
    exact .snoc (ih (fun r hr => hok r (List.mem_append_left _ hr)) _) (getR_enc h2 b1 b2 b3 more)
/-- what is read was written -/
theorem Rds.encs {n : Nat} {s t : List Nat} {l : List Rec} (h : Rds n s l t) : (∀ c ∈ s, c < 256) → ∃ f, Encs l f ∧ s = f ++ t ∧ (∀ r ∈ l, RecOk r ∧ r.2.1 < 256 ∧ ∀ c ∈ r.1, c < 256) := by
  induction h with
  | nil => intro _; exact ⟨[], .nil, rfl, by simp⟩
  | snoc h1 h2 ih =>
    intro hs
    obtain ⟨f, hf, rfl, hr⟩ := ih hs
    obtain ⟨g, hg, rfl, b0, b1, b2, b3, b4⟩ := getR_back (fun c hc => hs c (List.mem_append_right _ hc)) h2
    refine ⟨f ++ g, hf.snoc hg, by rw [List.append_assoc], fun r hm => ?_⟩
    rcases List.mem_append.1 hm with h | h
    · exact hr r h
    · simp only [List.mem_singleton] at h
      subst h
      exact ⟨⟨b2, b3, b4⟩, b0, b1⟩
/-- the reading of a part of what was written -/
theorem Rds.take {n : Nat} {s t : List Nat} {l : List Rec} (h : Rds n s l t) : ∀ k, k < n → ∃ u r v, Rds k s (l.take k) u ∧ l[k]? = some r ∧ getR u = some (r, v) := by
  induction h with
  | nil => intro k hk; omega
  | @snoc n s u t l r h1 h2 ih =>
    intro k hk
    have hl := h1.length
    rcases Nat.lt_or_ge k n with h | h
    · obtain ⟨u', r', v', g1, g2, g3⟩ := ih k h
      refine ⟨u', r', v', by rw [List.take_append_of_le_length (by omega)]; exact g1, by rw [List.getElem?_append_left (by omega)]; exact g2, g3⟩
    · obtain rfl : k = n := by omega
      refine ⟨u, r, t, by rw [← hl, List.take_left, hl]; exact h1, by rw [List.getElem?_append_right (by omega), hl]; simp, h2⟩
end Plain
end Go.Proofs.YtinjnclpiiohcaaDoor
