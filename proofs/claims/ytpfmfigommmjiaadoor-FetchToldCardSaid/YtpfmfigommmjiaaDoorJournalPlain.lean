/- Plain laws of a journal: frames, what is scanned of them, of torn ones, of ones with a changed byte. -/
import Derived.Test.YtpfmfigommmjiaaDoorNumPlain
namespace Go.Proofs.YtpfmfigommmjiaaDoor
namespace Plain
section
variable (idf : List Nat → List Nat)
/-- a frame of a record: its length, itself, the digest of both -/
def Frm (s f : List Nat) : Prop := s.length ≤ 4096 ∧ ∃ p, Num s.length p ∧ f = p ++ s ++ idf (p ++ s)
/-- one step of a scan: the record in front, how long its frame is -/
def stepF (s : List Nat) : Option (List Nat × Nat) :=
  if (getN s).2.2 = 0 ∧ (getN s).1 ≤ 4096 then
    if s.length < (getN s).2.1 + (getN s).1 + 8 ∨ idf (s.take ((getN s).2.1 + (getN s).1)) ≠ (s.drop ((getN s).2.1 + (getN s).1)).take 8 then none
    else some ((s.take ((getN s).2.1 + (getN s).1)).drop (getN s).2.1, (getN s).2.1 + (getN s).1 + 8)
  else none
/-- a scan: records, how far -/
inductive Scan : List Nat → List (List Nat) → Nat → Prop
  | stop {s : List Nat} : stepF idf s = none → Scan s [] 0
  | go {s r : List Nat} {k n : Nat} {l : List (List Nat)} : stepF idf s = some (r, k) → Scan (s.drop k) l n → Scan s (r :: l) (k + n)
variable {idf}
theorem Scan.unique {s : List Nat} {l : List (List Nat)} {n : Nat} (h : Scan idf s l n) : ∀ {m k}, Scan idf s m k → l = m ∧ n = k := by
  induction h with
  | stop h0 =>
    intro m k g
    cases g with
    | stop _ => exact ⟨rfl, rfl⟩
    | go g1 _ => rw [h0] at g1; cases g1
  | go h1 _ ih =>
    intro m k g
    cases g with
    | stop g0 => rw [h1] at g0; cases g0
    | go g1 g2 =>
      rw [h1] at g1
      cases g1
      obtain ⟨rfl, rfl⟩ := ih g2
      exact ⟨rfl, rfl⟩
theorem stepF_frm (hid : ∀ l, (idf l).length = 8) {s f : List Nat} (h : Frm idf s f) (more : List Nat) : stepF idf (f ++ more) = some (s, f.length) := by
  obtain ⟨h4, p, hp, rfl⟩ := h
  have e : getN (p ++ s ++ idf (p ++ s) ++ more) = (s.length, p.length, 0) := by
    rw [List.append_assoc, List.append_assoc]; exact getN_num hp _
  have hl : (p ++ s).length = p.length + s.length := List.length_append
  unfold stepF
  rw [e]
  simp only [h4, and_true, if_true]
  have t1 : (p ++ s ++ idf (p ++ s) ++ more).take (p.length + s.length) = p ++ s := by
    rw [← hl, List.append_assoc, List.take_left]
  have t2 : (p ++ s ++ idf (p ++ s) ++ more).drop (p.length + s.length) = idf (p ++ s) ++ more := by
    rw [← hl, List.append_assoc, List.drop_left]
  have t3 : (idf (p ++ s) ++ more).take 8 = idf (p ++ s) := by
    rw [← hid (p ++ s), List.take_left]
  rw [t1, t2, t3, if_neg]
  · rw [List.drop_left, List.length_append, hl, hid]
  · rintro (h | h)
    · rw [List.length_append, List.length_append, hl, hid] at h; omega
    · exact h rfl
theorem Frm.length (hid : ∀ l, (idf l).length = 8) {s f : List Nat} (h : Frm idf s f) : s.length + 9 ≤ f.length := by
  obtain ⟨h4, p, hp, rfl⟩ := h
  have := hp.length.1
  rw [List.length_append, List.length_append, hid]
  omega
/-- frames of records one behind the other -/
inductive Frms (idf : List Nat → List Nat) : List (List Nat) → List Nat → Prop
  | nil : Frms idf [] []
  | snoc {l : List (List Nat)} {s f t : List Nat} : Frms idf l t → Frm idf s f → Frms idf (l ++ [s]) (t ++ f)
theorem Frm.unique {s f g : List Nat} (h : Frm idf s f) (k : Frm idf s g) : f = g := by
  obtain ⟨_, p, hp, rfl⟩ := h
  obtain ⟨_, q, hq, rfl⟩ := k
  rw [hp.unique hq]
theorem Frms.cons {l : List (List Nat)} {t : List Nat} (h : Frms idf l t) : ∀ {s f}, Frm idf s f → Frms idf (s :: l) (f ++ t) := by
  induction h with
  | nil => intro s f hf; have := Frms.snoc Frms.nil hf; simpa using this
  | snoc h1 h2 ih => intro s f hf; have := Frms.snoc (ih hf) h2; simpa using this
theorem Frms.nil_eq {m : List (List Nat)} {t : List Nat} (h : Frms idf m t) : m = [] → t = [] := by
  cases h with
  | nil => intro _; rfl
  | snoc _ _ => intro e; simp at e
theorem Frms.split' {m : List (List Nat)} {t : List Nat} (h : Frms idf m t) : ∀ {s l}, m = s :: l → ∃ f u, Frm idf s f ∧ Frms idf l u ∧ t = f ++ u := by
  induction h with
  | nil => intro s l e; cases e
  | @snoc l' s' f' t' h1 h2 ih =>
    intro s l e
    cases l' with
    | nil =>
      simp only [List.nil_append, List.cons.injEq] at e
      obtain ⟨rfl, rfl⟩ := e
      obtain rfl := h1.nil_eq rfl
      exact ⟨f', [], h2, .nil, by simp⟩
    | cons a l2 =>
      simp only [List.cons_append, List.cons.injEq] at e
      obtain ⟨rfl, rfl⟩ := e
      obtain ⟨f, u, hf, hu, rfl⟩ := ih rfl
      exact ⟨f, u ++ f', hf, .snoc hu h2, by rw [List.append_assoc]⟩
theorem Frms.split {l : List (List Nat)} {t : List Nat} {s : List Nat} (h : Frms idf (s :: l) t) : ∃ f u, Frm idf s f ∧ Frms idf l u ∧ t = f ++ u := h.split' rfl
theorem Frms.unique : ∀ {l : List (List Nat)} {t u : List Nat}, Frms idf l t → Frms idf l u → t = u
  | [], t, u, h, g => by rw [h.nil_eq rfl, g.nil_eq rfl]
  | s :: l, t, u, h, g => by
    obtain ⟨f, t', hf, ht, rfl⟩ := h.split
    obtain ⟨f2, u', hf2, hu, rfl⟩ := g.split
    rw [hf.unique hf2, Frms.unique ht hu]
theorem Frms.cutAt : ∀ {a b : List (List Nat)} {t : List Nat}, Frms idf (a ++ b) t → ∃ u v, Frms idf a u ∧ Frms idf b v ∧ t = u ++ v
  | [], b, t, h => ⟨[], t, .nil, h, rfl⟩
  | s :: a, b, t, h => by
    obtain ⟨f, u, hf, hu, rfl⟩ := Frms.split (l := a ++ b) h
    obtain ⟨u1, v1, h1, h2, rfl⟩ := Frms.cutAt hu
    exact ⟨f ++ u1, v1, h1.cons hf, h2, by rw [List.append_assoc]⟩
/-- what was written is scanned, and then what stands behind -/
theorem Frms.scan (hid : ∀ l, (idf l).length = 8) : ∀ {l : List (List Nat)} {t : List Nat} (_ : Frms idf l t) {more : List Nat} {m : List (List Nat)} {n : Nat}, Scan idf more m n → Scan idf (t ++ more) (l ++ m) (t.length + n)
  | [], t, h, more, m, n, hm => by
    rw [Frms.unique h .nil]
    simpa using hm
  | s :: l, t, h, more, m, n, hm => by
    obtain ⟨f, u, hf, hu, rfl⟩ := h.split
    have ih := Frms.scan hid hu hm
    rw [List.length_append, Nat.add_assoc, List.append_assoc]
    exact Scan.go (stepF_frm hid hf _) (by rw [List.drop_left]; exact ih)
theorem stepF_nil : stepF idf [] = none := rfl
theorem Frms.all (hid : ∀ l, (idf l).length = 8) {l : List (List Nat)} {t : List Nat} (h : Frms idf l t) : Scan idf t l t.length := by
  have := h.scan hid (.stop stepF_nil)
  simpa using this
/-- a beginning of numbers reads the same -/
theorem getN_take {s : List Nat} {c : Nat} (h : (getN (s.take c)).2.2 = 0) : getN (s.take c) = getN s := by
  cases s with
  | nil => simp
  | cons a x =>
    cases c with
    | zero => simp [getN] at h
    | succ c =>
      rw [List.take_succ_cons] at h ⊢
      rw [getN] at h ⊢
      split at h
      · simp at h
      · rename_i h1
        split at h
        · simp at h
        · rename_i h2
          split at h
          · simp at h
          · rename_i h3
            have hx : a ≤ c ∧ a ≤ x.length := by rw [List.length_take] at h2; omega
            rw [if_neg h1, if_neg h2, if_neg h3, getN, if_neg h1, if_neg (by omega), if_neg, List.take_take, Nat.min_eq_left hx.1]
            rintro ⟨g1, g2⟩
            refine h3 ⟨g1, ?_⟩
            cases x with
            | nil => simp
            | cons b y =>
              cases c with
              | zero => omega
              | succ c => simpa using g2
theorem stepF_torn (hid : ∀ l, (idf l).length = 8) {s f : List Nat} (h : Frm idf s f) {c : Nat} (hc : c < f.length) (u : List Nat) : stepF idf ((f ++ u).take c) = none := by
  have e0 := stepF_frm hid h []
  rw [List.append_nil] at e0
  rw [List.take_append_of_le_length (by omega)]
  by_cases e : (getN (f.take c)).2.2 = 0
  · have e1 := getN_take e
    unfold stepF at e0 ⊢
    rw [e1]
    split at e0
    · rename_i h1
      rw [if_pos h1]
      split at e0
      · cases e0
      · simp only [Option.some.injEq, Prod.mk.injEq] at e0
        rw [if_pos]
        left
        rw [List.length_take]
        omega
    · cases e0
  · unfold stepF
    rw [if_neg (fun h => e h.1)]
/-- of torn frames the whole ones are scanned -/
theorem Frms.torn (hid : ∀ l, (idf l).length = 8) : ∀ {l : List (List Nat)} {t : List Nat} (_ : Frms idf l t) (c : Nat), c ≤ t.length → ∃ m r k, l = m ++ r ∧ Scan idf (t.take c) m k ∧ k ≤ c ∧ Frms idf m (t.take k) ∧ (r = [] → k = t.length) ∧ (∀ s r', r = s :: r' → ∃ f, Frm idf s f ∧ c < k + f.length)
  | [], t, h, c, hc => by
    have ht := Frms.unique h .nil
    subst ht
    exact ⟨[], [], 0, rfl, by rw [List.take_nil]; exact .stop stepF_nil, by omega, .nil, (fun _ => rfl), (fun s r' e => by cases e)⟩
  | s :: l, t, h, c, hc => by
    obtain ⟨f, u, hf, hu, rfl⟩ := h.split
    rcases Nat.lt_or_ge c f.length with e | e
    · exact ⟨[], s :: l, 0, rfl, .stop (stepF_torn hid hf e u), by omega, by rw [List.take_zero]; exact .nil, (fun e => by cases e), (fun s' r' e' => by cases e'; exact ⟨f, hf, by omega⟩)⟩
    · rw [List.length_append] at hc
      obtain ⟨m, r, k, hl, hs, hk, hm, h1, h2⟩ := Frms.torn hid hu (c - f.length) (by omega)
      have et : (f ++ u).take c = f ++ u.take (c - f.length) := by
        rw [List.take_append, List.take_of_length_le (by omega)]
      have ek : (f ++ u).take (f.length + k) = f ++ u.take k := by
        rw [List.take_append, List.take_of_length_le (by omega)]; congr 2; omega
      refine ⟨s :: m, r, f.length + k, by rw [hl]; rfl, ?_, by omega, by rw [ek]; exact hm.cons hf, (fun e => by rw [h1 e, List.length_append]), fun s' r' e' => ?_⟩
      · rw [et]
        exact Scan.go (stepF_frm hid hf _) (by rw [List.drop_left]; exact hs)
      · obtain ⟨f2, h3, h4⟩ := h2 s' r' e'
        exact ⟨f2, h3, by omega⟩
/-- a frame in which a byte behind the number was changed -/
theorem stepF_changed (hid : ∀ l, (idf l).length = 8) (hap : ∀ (l : List Nat) (j v : Nat), (∀ c ∈ l, c < 256) → j < l.length → v < 256 → l.getD j 0 ≠ v → l.length ≤ 4200 → idf (l.set j v) ≠ idf l)
    {s f p : List Nat} (hs : ∀ c ∈ s, c < 256) (h4 : s.length ≤ 4096) (hp : Num s.length p) (hf : f = p ++ s ++ idf (p ++ s)) {j v : Nat} (h1 : p.length ≤ j) (h2 : j < f.length) (hv : v < 256) (hne : f.getD j 0 ≠ v) (more : List Nat) : stepF idf (f.set j v ++ more) = none := by
  subst hf
  have hl : (p ++ s).length = p.length + s.length := List.length_append
  have hp9 := hp.length.2
  rw [List.length_append, hl, hid] at h2
  have hb : ∀ c ∈ p ++ s, c < 256 := fun c hc => by
    rcases List.mem_append.1 hc with h | h
    · exact hp.lt c h
    · exact hs c h
  rcases Nat.lt_or_ge j (p ++ s).length with e | e
  · have e1 : (p ++ s ++ idf (p ++ s)).set j v = p ++ (s.set (j - p.length) v ++ idf (p ++ s)) := by
      rw [List.append_assoc, List.set_append, if_neg (by omega), List.set_append, if_pos (by omega)]
    have hg : getN ((p ++ s ++ idf (p ++ s)).set j v ++ more) = (s.length, p.length, 0) := by
      rw [e1, List.append_assoc]; exact getN_num hp _
    have e2 : (p ++ s ++ idf (p ++ s)).set j v = (p ++ s).set j v ++ idf (p ++ s) := by
      rw [List.set_append, if_pos e]
    have t1 : ((p ++ s ++ idf (p ++ s)).set j v ++ more).take (p.length + s.length) = (p ++ s).set j v := by
      rw [e2, List.append_assoc, ← hl, ← List.length_set (as := p ++ s) (i := j) (a := v), List.take_left]
    have t2 : (((p ++ s ++ idf (p ++ s)).set j v ++ more).drop (p.length + s.length)).take 8 = idf (p ++ s) := by
      rw [e2, List.append_assoc, ← hl, ← List.length_set (as := p ++ s) (i := j) (a := v), List.drop_left]
      conv => lhs; rw [← hid (p ++ s)]
      exact List.take_left
    unfold stepF
    rw [hg]
    simp only [h4, and_true, if_true]
    rw [if_pos]
    right
    rw [t1, t2]
    refine hap _ j v hb e hv ?_ (by omega)
    rwa [List.getD_eq_getElem?_getD, List.getElem?_append_left e, ← List.getD_eq_getElem?_getD] at hne
  · have e2 : (p ++ s ++ idf (p ++ s)).set j v = (p ++ s) ++ (idf (p ++ s)).set (j - (p ++ s).length) v := by
      rw [List.set_append, if_neg (by omega)]
    have hg : getN ((p ++ s ++ idf (p ++ s)).set j v ++ more) = (s.length, p.length, 0) := by
      rw [e2, List.append_assoc, List.append_assoc]; exact getN_num hp _
    have t1 : ((p ++ s ++ idf (p ++ s)).set j v ++ more).take (p.length + s.length) = p ++ s := by
      rw [e2, List.append_assoc, ← hl, List.take_left]
    have t2 : (((p ++ s ++ idf (p ++ s)).set j v ++ more).drop (p.length + s.length)).take 8 = (idf (p ++ s)).set (j - (p ++ s).length) v := by
      rw [e2, List.append_assoc, ← hl, List.drop_left]
      have : ((idf (p ++ s)).set (j - (p ++ s).length) v).length = 8 := by rw [List.length_set, hid]
      conv => lhs; rw [← this]
      exact List.take_left
    unfold stepF
    rw [hg]
    simp only [h4, and_true, if_true]
    rw [if_pos]
    right
    rw [t1, t2]
    intro e3
    apply hne
    rw [List.getD_eq_getElem?_getD, List.getElem?_append_right e, ← List.getD_eq_getElem?_getD, e3, List.getD_eq_getElem?_getD, List.getElem?_set_self (by rw [hid]; omega)]
    rfl
end
end Plain
end Go.Proofs.YtpfmfigommmjiaaDoor
