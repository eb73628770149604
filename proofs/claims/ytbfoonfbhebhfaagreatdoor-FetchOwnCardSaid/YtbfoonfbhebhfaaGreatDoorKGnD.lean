/- Joined: DeltaPlain. -/
import Derived.Test.YtbfoonfbhebhfaaGreatDoorKGnA
namespace Go.Proofs.YtbfoonfbhebhfaaGreatDoor
namespace Plain
set_option linter.unusedSectionVars false
abbrev KT := List T
def Srt {A : Type} (ka : A → KT) (l : List A) : Prop := l.Pairwise fun x y => cmpL (ka x) (ka y) < 0
def fnd {A : Type} (ka : A → KT) (l : List A) (k : KT) : Option A := l.find? fun x => decide (ka x = k)
theorem cmpL_irr (k : KT) : ¬ cmpL k k < 0 := by rw [(cmpL_zero k k).2 rfl]; omega
section
variable {A : Type} {ka : A → KT}
theorem fnd_cons (x : A) (l : List A) (k : KT) : fnd ka (x :: l) k = if ka x = k then some x else fnd ka l k := by
 unfold fnd
 rw [List.find?_cons]
 by_cases h : ka x = k
 ·
  simp [h]
 ·
  simp [h]
theorem fnd_nil (k : KT) : fnd ka ([] : List A) k = none := rfl
theorem fnd_some {l : List A} {k : KT} {x : A} (h : fnd ka l k = some x) : x ∈ l ∧ ka x = k := by
 unfold fnd at h
 refine ⟨List.mem_of_find?_eq_some h, ?_⟩
 have := List.find?_some h
 simpa using this
theorem fnd_none {l : List A} {k : KT} (h : ∀ x ∈ l, ka x ≠ k) : fnd ka l k = none := by
 unfold fnd
 rw [List.find?_eq_none]
 intro x hx
 simpa using h x hx
theorem Srt.tail {x : A} {l : List A} (h : Srt ka (x :: l)) : Srt ka l := (List.pairwise_cons.1 h).2
theorem Srt.head {x : A} {l : List A} (h : Srt ka (x :: l)) : ∀ y ∈ l, cmpL (ka x) (ka y) < 0 := (List.pairwise_cons.1 h).1
theorem Srt.cons {x : A} {l : List A} (h : ∀ y ∈ l, cmpL (ka x) (ka y) < 0) (hl : Srt ka l) : Srt ka (x :: l) := List.pairwise_cons.2 ⟨h, hl⟩
theorem Srt.nil : Srt ka ([] : List A) := List.Pairwise.nil
theorem fnd_gt {z : KT} {l : List A} (h : ∀ y ∈ l, cmpL z (ka y) < 0) : fnd ka l z = none := fnd_none fun x hx e => by
 have := h x hx
 rw [e] at this
 exact cmpL_irr _ this
theorem fnd_mem {l : List A} (hs : Srt ka l) {x : A} (hx : x ∈ l) : fnd ka l (ka x) = some x := by
 induction l with
 | nil => cases hx
 | cons y l ih =>
  rw [fnd_cons]
  rcases List.mem_cons.1 hx with rfl | hx
  ·
   rw [if_pos rfl]
  ·
   rw [if_neg (fun e => by have := hs.head x hx; rw [e] at this; exact cmpL_irr _ this)]
   exact ih hs.tail hx
theorem Srt.ext {l m : List A} (hl : Srt ka l) (hm : Srt ka m) (h : ∀ k, fnd ka l k = fnd ka m k) : l = m := by
 induction l generalizing m with
 | nil =>
  cases m with
  | nil => rfl
  | cons y m =>
   have := h (ka y)
   rw [fnd_nil, fnd_cons, if_pos rfl] at this
   cases this
 | cons x l ih =>
  cases m with
  | nil =>
   have := h (ka x)
   rw [fnd_nil, fnd_cons, if_pos rfl] at this
   cases this
  | cons y m =>
   have h1 := h (ka x)
   rw [fnd_cons, if_pos rfl] at h1
   have h2 := (fnd_some h1.symm).1
   have h3 := h (ka y)
   rw [fnd_cons (ka := ka) y m, if_pos rfl] at h3
   have h4 := (fnd_some h3).1
   have hxy : x = y := by
    rcases List.mem_cons.1 h2 with e | e
    ·
     exact e
    ·
     rcases List.mem_cons.1 h4 with f | f
     ·
      exact f.symm
     ·
      exact absurd (cmpL_trans _ _ _ (hl.head y f) (hm.head x e)) (cmpL_irr _)
   subst hxy
   have : l = m := ih hl.tail hm.tail fun k => by
    by_cases e : ka x = k
    ·
     subst e
     rw [fnd_gt hl.head, fnd_gt hm.head]
    ·
     have := h k
     rwa [fnd_cons, fnd_cons, if_neg e, if_neg e] at this
   rw [this]
theorem Srt.nodup {l : List A} (h : Srt ka l) : (l.map ka).Nodup := by
 induction l with
 | nil => simp
 | cons x l ih =>
  rw [List.map_cons, List.nodup_cons]
  refine ⟨fun hm => ?_, ih h.tail⟩
  obtain ⟨y, hy, e⟩ := List.mem_map.1 hm
  have := h.head y hy
  rw [e] at this
  exact cmpL_irr _ this
end
theorem nodup_le {α : Type} [DecidableEq α] : ∀ {l m : List α}, l.Nodup → (∀ x ∈ l, x ∈ m) → l.length ≤ m.length
 | [], _, _, _ => Nat.zero_le _
 | x :: l, m, hn, h => by
  have hx := h x (by simp)
  rw [List.nodup_cons] at hn
  have := nodup_le (l := l) (m := m.erase x) hn.2 fun y hy => by
   have hne : y ≠ x := fun e => hn.1 (e ▸ hy)
   exact (List.mem_erase_of_ne hne).2 (h y (by simp [hy]))
  rw [List.length_erase_of_mem hx] at this
  have := List.length_pos_of_mem hx
  simp only [List.length_cons]
  omega
section
variable {A B : Type} (ka : A → KT) (kb : B → KT)
inductive Mg : List A → List B → List (Option A × Option B) → Prop
 | nil : Mg [] [] []
 | left {x : A} {as : List A} {bs : List B} {M : List (Option A × Option B)} : (∀ y ∈ bs.head?, cmpL (ka x) (kb y) < 0) → Mg as bs M → Mg (x :: as) bs ((some x, none) :: M)
 | right {y : B} {as : List A} {bs : List B} {M : List (Option A × Option B)} : (∀ x ∈ as.head?, 0 < cmpL (ka x) (kb y)) → Mg as bs M → Mg as (y :: bs) ((none, some y) :: M)
 | both {x : A} {y : B} {as : List A} {bs : List B} {M : List (Option A × Option B)} : cmpL (ka x) (kb y) = 0 → Mg as bs M → Mg (x :: as) (y :: bs) ((some x, some y) :: M)
def keyP : Option A × Option B → KT
 | (some x, _) => ka x
 | (none, some y) => kb y
 | (none, none) => []
def pairUp : Option A → Option B → Option (Option A × Option B)
 | none, none => none
 | x, y => some (x, y)
variable {ka kb}
theorem Mg.mem {a : List A} {b : List B} {M : List (Option A × Option B)} (h : Mg ka kb a b M) : ∀ p ∈ M, (∃ x ∈ a, keyP ka kb p = ka x) ∨ ∃ y ∈ b, keyP ka kb p = kb y := by
 induction h with
 | nil => intro p hp; cases hp
 | left h1 _ ih =>
  intro p hp
  rcases List.mem_cons.1 hp with rfl | hp
  ·
   exact .inl ⟨_, by simp, rfl⟩
  ·
   rcases ih p hp with ⟨x, hx, e⟩ | h
   ·
    exact .inl ⟨x, by simp [hx], e⟩
   ·
    exact .inr h
 | right h1 _ ih =>
  intro p hp
  rcases List.mem_cons.1 hp with rfl | hp
  ·
   exact .inr ⟨_, by simp, rfl⟩
  ·
   rcases ih p hp with h | ⟨x, hx, e⟩
   ·
    exact .inl h
   ·
    exact .inr ⟨x, by simp [hx], e⟩
 | both h1 _ ih =>
  intro p hp
  rcases List.mem_cons.1 hp with rfl | hp
  ·
   exact .inl ⟨_, by simp, rfl⟩
  ·
   rcases ih p hp with ⟨x, hx, e⟩ | ⟨x, hx, e⟩
   ·
    exact .inl ⟨x, by simp [hx], e⟩
   ·
    exact .inr ⟨x, by simp [hx], e⟩
theorem Mg.above {a : List A} {b : List B} {M : List (Option A × Option B)} (h : Mg ka kb a b M) {z : KT} (ha : ∀ x ∈ a, cmpL z (ka x) < 0) (hb : ∀ y ∈ b, cmpL z (kb y) < 0) : ∀ p ∈ M, cmpL z (keyP ka kb p) < 0 := fun p hp => by
 rcases h.mem p hp with ⟨x, hx, e⟩ | ⟨y, hy, e⟩
 ·
  rw [e]; exact ha x hx
 ·
  rw [e]; exact hb y hy
theorem Mg.length {a : List A} {b : List B} {M : List (Option A × Option B)} (h : Mg ka kb a b M) : M.length ≤ a.length + b.length := by
 induction h with
 | nil => simp
 | left _ _ ih => simp only [List.length_cons]; omega
 | right _ _ ih => simp only [List.length_cons]; omega
 | both _ _ ih => simp only [List.length_cons]; omega
theorem above_all {z : KT} {b : List B} (hs : Srt kb b) (h : ∀ y ∈ b.head?, cmpL z (kb y) < 0) : ∀ y ∈ b, cmpL z (kb y) < 0 := by
 cases b with
 | nil => intro y hy; cases hy
 | cons y b =>
  have h0 := h y rfl
  intro u hu
  rcases List.mem_cons.1 hu with rfl | hu
  ·
   exact h0
  ·
   exact cmpL_trans _ _ _ h0 (hs.head u hu)
theorem Mg.look {a : List A} {b : List B} {M : List (Option A × Option B)} (h : Mg ka kb a b M) (ha : Srt ka a) (hb : Srt kb b) : Srt (keyP ka kb) M ∧ ∀ k, fnd (keyP ka kb) M k = pairUp (fnd ka a k) (fnd kb b k) := by
 induction h with
 | nil => exact ⟨Srt.nil, fun k => rfl⟩
 | @left x as bs M h1 hm ih =>
  obtain ⟨i1, i2⟩ := ih ha.tail hb
  have hab := above_all hb h1
  refine ⟨Srt.cons (hm.above (z := ka x) ha.head hab) i1, fun k => ?_⟩
  rw [fnd_cons, fnd_cons]
  by_cases e : ka x = k
  ·
   subst e
   rw [if_pos (show keyP ka kb (some x, none) = ka x from rfl), if_pos rfl, fnd_gt hab]; rfl
  ·
   rw [if_neg e, if_neg (show ¬ keyP ka kb (some x, none) = k from e)]; exact i2 k
 | @right y as bs M h1 hm ih =>
  obtain ⟨i1, i2⟩ := ih ha hb.tail
  have hab := above_all (z := kb y) ha (fun x hx => by rw [cmpL_neg]; have := h1 x hx; omega)
  refine ⟨Srt.cons (hm.above (z := kb y) hab hb.head) i1, fun k => ?_⟩
  rw [fnd_cons, fnd_cons (ka := kb)]
  by_cases e : kb y = k
  ·
   subst e
   rw [if_pos (show keyP ka kb (none, some y) = kb y from rfl), if_pos rfl, fnd_gt hab]
   generalize kb y = q
   cases fnd ka as q <;> rfl
  ·
   rw [if_neg e, if_neg (show ¬ keyP ka kb (none, some y) = k from e)]; exact i2 k
 | @both x y as bs M h1 hm ih =>
  obtain ⟨i1, i2⟩ := ih ha.tail hb.tail
  have hk := (cmpL_zero _ _).1 h1
  refine ⟨Srt.cons (hm.above (z := ka x) ha.head (by rw [hk]; exact hb.head)) i1, fun k => ?_⟩
  rw [fnd_cons, fnd_cons (ka := ka), fnd_cons (ka := kb)]
  by_cases e : ka x = k
  ·
   rw [if_pos (show keyP ka kb (some x, some y) = k from e), if_pos e, if_pos (hk ▸ e)]; rfl
  ·
   rw [if_neg (show ¬ keyP ka kb (some x, some y) = k from e), if_neg e, if_neg (fun f => e (hk.trans f))]; exact i2 k
theorem srt_filter {C : Type} {kp : A → KT} {kc : C → KT} {f : A → Option C} {M : List A} (hf : ∀ p ∈ M, ∀ c, f p = some c → kc c = kp p) (hs : Srt kp M) : Srt kc (M.filterMap f) ∧ ∀ k, fnd kc (M.filterMap f) k = (fnd kp M k).bind f := by
 induction M with
 | nil => exact ⟨Srt.nil, fun k => rfl⟩
 | cons p M ih =>
  obtain ⟨i1, i2⟩ := ih (fun q hq => hf q (by simp [hq])) hs.tail
  rw [List.filterMap_cons]
  cases hp : f p with
  | none =>
   refine ⟨i1, fun k => ?_⟩
   rw [fnd_cons, i2]
   by_cases e : kp p = k
   ·
    rw [if_pos e]
    subst e
    rw [fnd_gt hs.head]
    simp [hp]
   ·
    rw [if_neg e]
  | some c =>
   have hc := hf p (by simp) c hp
   refine ⟨Srt.cons (fun d hd => ?_) i1, fun k => ?_⟩
   ·
    obtain ⟨q, hq, e⟩ := List.mem_filterMap.1 hd
    rw [hc, hf q (by simp [hq]) d e]
    exact hs.head q hq
   ·
    rw [fnd_cons, fnd_cons, hc]
    by_cases e : kp p = k
    ·
     rw [if_pos e, if_pos e]; simp [hp]
    ·
     rw [if_neg e, if_neg e, i2]
theorem Mg.parts {a : List A} {b : List B} {M : List (Option A × Option B)} (h : Mg ka kb a b M) : ∀ p ∈ M, (∀ x, p.1 = some x → x ∈ a) ∧ (∀ y, p.2 = some y → y ∈ b) ∧ ∀ x y, p = (some x, some y) → ka x = kb y := by
 induction h with
 | nil => intro p hp; cases hp
 | left _ _ ih =>
  intro p hp
  rcases List.mem_cons.1 hp with rfl | hp
  ·
   exact ⟨fun x e => by cases e; simp, fun y e => (by cases e), fun x y e => (by cases e)⟩
  ·
   obtain ⟨h1, h2, h3⟩ := ih p hp
   exact ⟨fun x e => by simp [h1 x e], h2, h3⟩
 | right _ _ ih =>
  intro p hp
  rcases List.mem_cons.1 hp with rfl | hp
  ·
   exact ⟨fun x e => (by cases e), fun y e => by cases e; simp, fun x y e => (by cases e)⟩
  ·
   obtain ⟨h1, h2, h3⟩ := ih p hp
   exact ⟨h1, fun y e => by simp [h2 y e], h3⟩
 | both h0 _ ih =>
  intro p hp
  rcases List.mem_cons.1 hp with rfl | hp
  ·
   exact ⟨fun x e => by cases e; simp, fun y e => by cases e; simp, fun x y e => by cases e; exact (cmpL_zero _ _).1 h0⟩
  ·
   obtain ⟨h1, h2, h3⟩ := ih p hp
   exact ⟨fun x e => by simp [h1 x e], fun y e => by simp [h2 y e], h3⟩
end
/-! ### worlds and edits -/
section
variable {I P : Type} [DecidableEq I] (kp : P → KT) (pth : I → P) (zero : I)
abbrev Edt (I P : Type) := P × Bool × I
def ki (x : I) : KT := kp (pth x)
def ke (e : Edt I P) : KT := kp e.1
def diffF : Option I × Option I → Option (Edt I P)
 | (some x, none) => some (pth x, true, zero)
 | (none, some y) => some (pth y, false, y)
 | (some x, some y) => if x = y then none else some (pth y, false, y)
 | (none, none) => none
def applyF : Option I × Option (Edt I P) → Option I
 | (x, none) => x
 | (_, some e) => if e.2.1 then none else some e.2.2
def joinF : Option (Edt I P) × Option (Edt I P) → Option (Edt I P)
 | (_, some y) => some y
 | (x, none) => x
variable {kp pth zero}
def EdOk (e : Edt I P) : Prop := (e.2.1 = true → e.2.2 = zero) ∧ (e.2.1 = false → pth e.2.2 = e.1)
theorem diff_key {p : Option I × Option I} {c : Edt I P} (hk : ∀ x y, p = (some x, some y) → kp (pth x) = kp (pth y)) (h : diffF pth zero p = some c) : ke kp c = keyP (ki kp pth) (ki kp pth) p := by
 match p, h, hk with
 | (some x, none), h, _ => simp only [diffF, Option.some.injEq] at h; subst h; rfl
 | (none, some y), h, _ => simp only [diffF, Option.some.injEq] at h; subst h; rfl
 | (some x, some y), h, hk =>
  simp only [diffF] at h
  split at h
  ·
   cases h
  ·
   simp only [Option.some.injEq] at h
   subst h
   exact (hk x y rfl).symm
 | (none, none), h, _ => simp [diffF] at h
variable (kp pth zero)
def Diff (a b : List I) (l : List (Edt I P)) : Prop := ∃ M, Mg (ki kp pth) (ki kp pth) a b M ∧ l = M.filterMap (diffF pth zero)
def App (a : List I) (l : List (Edt I P)) (b : List I) : Prop := ∃ M, Mg (ki kp pth) (ke kp) a l M ∧ b = M.filterMap applyF
def Joi (l m n : List (Edt I P)) : Prop := ∃ M, Mg (ke kp) (ke kp) l m M ∧ n = M.filterMap joinF
variable {kp pth zero}
section
variable {a b c x y : List I} {l m n u v s : List (Edt I P)}
theorem Diff.look (h : Diff kp pth zero a b l) (ha : Srt (ki kp pth) a) (hb : Srt (ki kp pth) b) : Srt (ke kp) l ∧ ∀ k, fnd (ke kp) l k = (pairUp (fnd (ki kp pth) a k) (fnd (ki kp pth) b k)).bind (diffF pth zero) := by
 obtain ⟨M, hM, rfl⟩ := h
 obtain ⟨h1, h2⟩ := hM.look ha hb
 obtain ⟨h3, h4⟩ := srt_filter (kc := ke kp) (f := diffF pth zero) (fun p hp c hc => diff_key (fun x y e => (hM.parts p hp).2.2 x y e) hc) h1
 exact ⟨h3, fun k => by rw [h4, h2]⟩
theorem Diff.length (h : Diff kp pth zero a b l) : l.length ≤ a.length + b.length := by
 obtain ⟨M, hM, rfl⟩ := h
 exact Nat.le_trans (List.length_filterMap_le _ _) hM.length
theorem Diff.ok (h : Diff kp pth zero a b l) : ∀ e ∈ l, EdOk (pth := pth) (zero := zero) e ∧ ((∃ x ∈ a, e.1 = pth x) ∨ ∃ x ∈ b, e.1 = pth x) := by
 obtain ⟨M, hM, rfl⟩ := h
 intro e he
 obtain ⟨p, hp, hd⟩ := List.mem_filterMap.1 he
 obtain ⟨p1, p2, p3⟩ := hM.parts p hp
 match p, hd, p1, p2 with
 | (some x, none), hd, p1, p2 =>
  simp only [diffF, Option.some.injEq] at hd
  subst hd
  exact ⟨⟨fun _ => rfl, fun h => (by cases h)⟩, .inl ⟨x, p1 x rfl, rfl⟩⟩
 | (none, some y), hd, p1, p2 =>
  simp only [diffF, Option.some.injEq] at hd
  subst hd
  exact ⟨⟨fun h => (by cases h), fun _ => rfl⟩, .inr ⟨y, p2 y rfl, rfl⟩⟩
 | (some x, some y), hd, p1, p2 =>
  simp only [diffF] at hd
  split at hd
  ·
   cases hd
  ·
   simp only [Option.some.injEq] at hd
   subst hd
   exact ⟨⟨fun h => (by cases h), fun _ => rfl⟩, .inr ⟨y, p2 y rfl, rfl⟩⟩
 | (none, none), hd, _, _ => simp [diffF] at hd
theorem diff_bind (x y : Option I) : ((pairUp x y).bind (diffF (P := P) pth zero)) ≠ none ↔ x ≠ y := by
 cases x with
 | none => cases y with
  | none => simp [pairUp]
  | some y => simp [pairUp, diffF]
 | some x => cases y with
  | none => simp [pairUp, diffF]
  | some y =>
   simp only [pairUp, Option.bind_some, diffF]
   split
   ·
    rename_i e; simp [e]
   ·
    rename_i e; simp [e]
theorem key_mem {A : Type} {ka : A → KT} {l : List A} (hs : Srt ka l) (k : KT) : k ∈ l.map ka ↔ fnd ka l k ≠ none := by
 constructor
 ·
  intro h
  obtain ⟨x, hx, rfl⟩ := List.mem_map.1 h
  rw [fnd_mem hs hx]
  simp
 ·
  intro h
  cases e : fnd ka l k with
  | none => exact absurd e h
  | some x => exact List.mem_map.2 ⟨x, (fnd_some e).1, (fnd_some e).2⟩
theorem Diff.keys (h : Diff kp pth zero a b l) (ha : Srt (ki kp pth) a) (hb : Srt (ki kp pth) b) (k : KT) : k ∈ l.map (ke kp) ↔ fnd (ki kp pth) a k ≠ fnd (ki kp pth) b k := by
 obtain ⟨h1, h2⟩ := h.look ha hb
 rw [key_mem h1, h2, diff_bind]
theorem Diff.le (h1 : Diff kp pth zero a b l) (h2 : Diff kp pth zero b a m) (ha : Srt (ki kp pth) a) (hb : Srt (ki kp pth) b) : l.length ≤ m.length := by
 have := nodup_le (h1.look ha hb).1.nodup (m := m.map (ke kp)) (fun k hk => (h2.keys hb ha k).2 (fun e => (h1.keys ha hb k).1 hk e.symm))
 simpa using this
theorem App.look (h : App kp pth a l b) (ha : Srt (ki kp pth) a) (hl : Srt (ke kp) l) (hok : ∀ e ∈ l, EdOk (pth := pth) (zero := zero) e) : Srt (ki kp pth) b ∧ ∀ k, fnd (ki kp pth) b k = (pairUp (fnd (ki kp pth) a k) (fnd (ke kp) l k)).bind applyF := by
 obtain ⟨M, hM, rfl⟩ := h
 obtain ⟨h1, h2⟩ := hM.look ha hl
 obtain ⟨h3, h4⟩ := srt_filter (kc := ki kp pth) (f := applyF) (fun p hp c hc => by
  obtain ⟨p1, p2, p3⟩ := hM.parts p hp
  match p, hc, p1, p2, p3 with
  | (some x, none), hc, _, _, _ => simp only [applyF, Option.some.injEq] at hc; subst hc; rfl
  | (none, none), hc, _, _, _ => simp [applyF] at hc
  | (some x, some e), hc, _, p2, p3 =>
   simp only [applyF] at hc
   split at hc
   ·
    cases hc
   ·
    rename_i hg
    simp only [Option.some.injEq] at hc
    subst hc
    rw [show keyP (ki kp pth) (ke kp) (some x, some e) = ki kp pth x from rfl, p3 x e rfl]
    unfold ki ke
    rw [(hok e (p2 e rfl)).2 (by simpa using hg)]
  | (none, some e), hc, _, p2, _ =>
   simp only [applyF] at hc
   split at hc
   ·
    cases hc
   ·
    rename_i hg
    simp only [Option.some.injEq] at hc
    subst hc
    rw [show keyP (ki kp pth) (ke kp) (none, some e) = ke kp e from rfl]
    unfold ki ke
    rw [(hok e (p2 e rfl)).2 (by simpa using hg)]) h1
 exact ⟨h3, fun k => by rw [h4, h2]⟩
theorem Joi.look (h : Joi kp l m n) (hl : Srt (ke kp) l) (hm : Srt (ke kp) m) : Srt (ke kp) n ∧ ∀ k, fnd (ke kp) n k = (pairUp (fnd (ke kp) l k) (fnd (ke kp) m k)).bind joinF := by
 obtain ⟨M, hM, rfl⟩ := h
 obtain ⟨h1, h2⟩ := hM.look hl hm
 obtain ⟨h3, h4⟩ := srt_filter (kc := ke kp) (f := joinF) (fun p hp c hc => by
  obtain ⟨p1, p2, p3⟩ := hM.parts p hp
  match p, hc, p3 with
  | (some x, none), hc, _ => simp only [joinF, Option.some.injEq] at hc; subst hc; rfl
  | (none, none), hc, _ => simp [joinF] at hc
  | (some x, some e), hc, p3 =>
   simp only [joinF, Option.some.injEq] at hc
   subst hc
   rw [show keyP (ke kp) (ke kp) (some x, some e) = ke kp x from rfl, p3 x e rfl]
  | (none, some e), hc, _ => simp only [joinF, Option.some.injEq] at hc; subst hc; rfl) h1
 exact ⟨h3, fun k => by rw [h4, h2]⟩
theorem Joi.mem (h : Joi kp l m n) : ∀ e ∈ n, e ∈ l ∨ e ∈ m := by
 obtain ⟨M, hM, rfl⟩ := h
 intro e he
 obtain ⟨p, hp, hc⟩ := List.mem_filterMap.1 he
 obtain ⟨p1, p2, _⟩ := hM.parts p hp
 match p, hc, p1, p2 with
 | (some x, none), hc, p1, _ => simp only [joinF, Option.some.injEq] at hc; subst hc; exact .inl (p1 x rfl)
 | (none, none), hc, _, _ => simp [joinF] at hc
 | (some x, some y), hc, _, p2 => simp only [joinF, Option.some.injEq] at hc; subst hc; exact .inr (p2 y rfl)
 | (none, some y), hc, _, p2 => simp only [joinF, Option.some.injEq] at hc; subst hc; exact .inr (p2 y rfl)
end
end
end Plain
end Go.Proofs.YtbfoonfbhebhfaaGreatDoor
