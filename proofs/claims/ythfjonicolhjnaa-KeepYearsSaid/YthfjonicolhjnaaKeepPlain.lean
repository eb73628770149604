/- keep.Pick in plain words: which times a policy keeps, and the four laws of keeping (plain Lean). -/
import Derived.Test.YthfjonicolhjnaaCivilPlain
namespace Go.Proofs.Ythfjonicolhjnaa
namespace Plain
abbrev KK := Int × Int
/-- The different keys of a list, in the order in which they come. -/
def fs (p : List KK) : List KK := p.foldl (fun s k => if k ∈ s then s else s ++ [k]) []
theorem fs_nil : fs [] = [] := rfl
theorem fs_snoc (p : List KK) (k : KK) : fs (p ++ [k]) = if k ∈ fs p then fs p else fs p ++ [k] := by unfold fs; rw [List.foldl_append]; rfl
theorem snocInd {α : Type} {Q : List α → Prop} (h0 : Q []) (h1 : ∀ p k, Q p → Q (p ++ [k])) (l : List α) : Q l := by
  have h : ∀ m : List α, Q m.reverse := by
    intro m
    induction m with
    | nil => exact h0
    | cons k m ih => rw [List.reverse_cons]; exact h1 _ _ ih
  have := h l.reverse
  rwa [List.reverse_reverse] at this
theorem mem_fs (p : List KK) : ∀ k, k ∈ fs p ↔ k ∈ p := by
  refine snocInd (Q := fun p => ∀ k, k ∈ fs p ↔ k ∈ p) (by simp [fs_nil]) ?_ p
  intro p a ih k
  rw [fs_snoc]
  split
  · rename_i h
    simp only [List.mem_append, List.mem_singleton, ih]
    constructor
    · exact Or.inl
    · rintro (h1 | rfl)
      · exact h1
      · exact (ih _).1 h
  · simp [ih]
theorem nodup_fs (p : List KK) : (fs p).Nodup := by
  refine snocInd (Q := fun p => (fs p).Nodup) (by simp [fs_nil]) ?_ p
  intro p a ih
  rw [fs_snoc]
  split
  · exact ih
  · rename_i h
    rw [List.nodup_append]
    refine ⟨ih, by simp, ?_⟩
    intro x hx y hy e
    rw [List.mem_singleton] at hy
    subst hy; subst e; exact h hx
theorem nodup_le {α : Type} [DecidableEq α] : ∀ (l m : List α), l.Nodup → (∀ x ∈ l, x ∈ m) → l.length ≤ m.length
  | [], _, _, _ => by simp
  | a :: l, m, h, hs => by
    have ha : a ∈ m := hs a (by simp)
    rw [List.nodup_cons] at h
    have := nodup_le l (m.erase a) h.2 (fun x hx => (List.mem_erase_of_ne (fun e : x = a => h.1 (by rw [← e]; exact hx))).2 (hs x (by simp [hx])))
    rw [List.length_erase_of_mem ha] at this
    have : 0 < m.length := List.length_pos_of_mem ha
    simp only [List.length_cons]; omega
theorem fs_le {p q : List KK} (h : ∀ x ∈ p, x ∈ q) : (fs p).length ≤ (fs q).length :=
  nodup_le _ _ (nodup_fs p) (fun x hx => (mem_fs q x).2 (h x ((mem_fs p x).1 hx)))
/-- Is a time kept of which these are the keys ahead, and this its own? -/
def mk1 (many : Int) (p : List KK) (k : KK) : Bool := decide (¬ k ∈ p) && decide (((fs p).length : Int) < many)
/-- One rule, gone over the times from i on. -/
def kGo (many : Int) (sp : Int → KK) : List Int → Nat → List KK → List Bool → List Bool
  | [], _, _, out => out
  | t :: l, i, seen, out => if ¬ sp t ∈ seen ∧ ((seen.length : Nat) : Int) < many then kGo many sp l (i + 1) (seen ++ [sp t]) (out.set i true) else kGo many sp l (i + 1) seen out
theorem kGo_length (many : Int) (sp : Int → KK) : ∀ (l : List Int) (i : Nat) (seen : List KK) (out : List Bool), (kGo many sp l i seen out).length = out.length
  | [], _, _, _ => rfl
  | t :: l, i, seen, out => by
    rw [kGo]; split
    · rw [kGo_length]; simp
    · rw [kGo_length]
theorem mk1_take (many : Int) (p : List KK) (k : KK) : (¬ k ∈ (fs p).take many.toNat ∧ ((((fs p).take many.toNat).length : Nat) : Int) < many) ↔ mk1 many p k = true := by
  unfold mk1
  rw [Bool.and_eq_true, decide_eq_true_eq, decide_eq_true_eq, ← mem_fs p k]
  by_cases h : ((fs p).length : Int) < many
  · have : (fs p).take many.toNat = fs p := List.take_of_length_le (by omega)
    rw [this]
  · constructor
    · rintro ⟨_, h2⟩
      rw [List.length_take] at h2; omega
    · rintro ⟨_, h2⟩; exact absurd h2 h
theorem take_snoc (many : Int) (p : List KK) (k : KK) : (fs (p ++ [k])).take many.toNat = if mk1 many p k = true then (fs p).take many.toNat ++ [k] else (fs p).take many.toNat := by
  rw [fs_snoc]
  by_cases hk : k ∈ fs p
  · have : mk1 many p k = false := by simp [mk1, (mem_fs p k).1 hk]
    simp [hk, this]
  · have hk' : ¬ k ∈ p := fun h => hk ((mem_fs p k).2 h)
    simp only [hk, if_false]
    by_cases h : ((fs p).length : Int) < many
    · have : mk1 many p k = true := by simp [mk1, hk', h]
      simp only [this, if_true]
      rw [List.take_of_length_le (by simp; omega), List.take_of_length_le (by omega)]
    · have : mk1 many p k = false := by simp [mk1, h]
      simp only [this, Bool.false_eq_true, if_false]
      rw [List.take_append_of_le_length (by omega)]
/-- What one rule keeps: place by place. -/
theorem kGo_get (many : Int) (sp : Int → KK) : ∀ (l : List Int) (ahead : List Int) (out : List Bool), out.length = ahead.length + l.length → ∀ j,
    (kGo many sp l ahead.length ((fs (ahead.map sp)).take many.toNat) out).getD j false = (out.getD j false || decide (ahead.length ≤ j ∧ j < ahead.length + l.length) && mk1 many (((ahead ++ l).take j).map sp) (sp ((ahead ++ l).getD j 0)))
  | [], ahead, out, hl, j => by
    have : ¬ (ahead.length ≤ j ∧ j < ahead.length + ([] : List Int).length) := by simp; 
    simp only [kGo, this, decide_false, Bool.false_and, Bool.or_false]
  | t :: l, ahead, out, hl, j => by
    have ih := kGo_get many sp l (ahead ++ [t])
    have happ : ahead ++ [t] ++ l = ahead ++ t :: l := by simp
    rw [happ] at ih
    simp only [List.length_append, List.length_singleton, List.map_append, List.map_cons, List.map_nil] at ih
    simp only [List.length_cons] at hl ⊢
    have hj : (ahead ++ t :: l).take ahead.length = ahead := by simp
    have hg : (ahead ++ t :: l).getD ahead.length 0 = t := by simp [List.getD_eq_getElem?_getD]
    rw [kGo]
    by_cases hm : mk1 many (ahead.map sp) (sp t) = true
    · rw [if_pos ((mk1_take _ _ _).2 hm)]
      have ih := ih (out.set ahead.length true) (by simp; omega) j
      rw [take_snoc, if_pos hm] at ih
      rw [ih]
      by_cases hjj : j = ahead.length
      · subst hjj
        rw [hj, hg, hm]
        have h0 : (out.set ahead.length true).getD ahead.length false = true := by
          rw [List.getD_eq_getElem?_getD, List.getElem?_set_self (by omega)]; rfl
        rw [h0]; simp
      · have h0 : (out.set ahead.length true).getD j false = out.getD j false := by
          rw [List.getD_eq_getElem?_getD, List.getElem?_set_ne (by omega), List.getD_eq_getElem?_getD]
        rw [h0]
        congr 2
        rw [decide_eq_decide]; omega
    · rw [if_neg (fun h => hm ((mk1_take _ _ _).1 h))]
      have ih := ih out (by omega) j
      rw [take_snoc, if_neg hm] at ih
      rw [ih]
      by_cases hjj : j = ahead.length
      · subst hjj
        rw [hj, hg, Bool.not_eq_true] at *
        rw [hm]
        simp
      · congr 2
        rw [decide_eq_decide]; omega
theorem kGo_at (many : Int) (sp : Int → KK) (l : List Int) (out : List Bool) (hl : out.length = l.length) (j : Nat) :
    (kGo many sp l 0 [] out).getD j false = (out.getD j false || decide (j < l.length) && mk1 many ((l.take j).map sp) (sp (l.getD j 0))) := by
  have := kGo_get many sp l [] out (by simpa using hl) j
  simpa [fs_nil] using this
/-- The first so many places. -/
def lastL (last : Int) (n : Nat) : List Bool := (List.range n).map fun (i : Nat) => decide ((i : Int) < last)
theorem lastL_length (last : Int) (n : Nat) : (lastL last n).length = n := by simp [lastL]
theorem lastL_get (last : Int) (n j : Nat) : (lastL last n).getD j false = decide (j < n ∧ (j : Int) < last) := by
  simp only [lastL, List.getD_eq_getElem?_getD, List.getElem?_map]
  by_cases h : j < n
  · rw [List.getElem?_range h]; simp [h]
  · rw [List.getElem?_eq_none (by simp; omega)]; simp [h]
structure Pol where
  (last days weeks months years : Int)
def spD (t : Int) : KK := (t / 1440, 0)
def wkY (n : Int) : Int := dY (n + (4 - wday n))
def wkW (n : Int) : Int := (n + (4 - wday n) - ybeg (dY (n + (4 - wday n)))) / 7 + 1
def spW (t : Int) : KK := (wkY (t / 1440), wkW (t / 1440))
def spM (t : Int) : KK := (dY (t / 1440), dM (t / 1440))
def spY (t : Int) : KK := (dY (t / 1440), 0)
def pOK (p : Pol) : Prop := (0 ≤ p.last ∧ p.last ≤ 100) ∧ (0 ≤ p.days ∧ p.days ≤ 100) ∧ (0 ≤ p.weeks ∧ p.weeks ≤ 100) ∧ (0 ≤ p.months ∧ p.months ≤ 100) ∧ (0 ≤ p.years ∧ p.years ≤ 100)
def tOK (l : List Int) : Prop := l.length ≤ 200 ∧ (∀ t ∈ l, 0 ≤ t ∧ t ≤ 4223371679) ∧ l.Pairwise (fun a b => b ≤ a)
def pickL (p : Pol) (l : List Int) : List Bool :=
  kGo p.years spY l 0 [] (kGo p.months spM l 0 [] (kGo p.weeks spW l 0 [] (kGo p.days spD l 0 [] (lastL p.last l.length))))
theorem pickL_length (p : Pol) (l : List Int) : (pickL p l).length = l.length := by simp [pickL, kGo_length, lastL_length]
theorem pickL_at (p : Pol) (l : List Int) (j : Nat) (hj : j < l.length) : (pickL p l).getD j false =
    (decide ((j : Int) < p.last) || mk1 p.days ((l.take j).map spD) (spD (l.getD j 0)) || mk1 p.weeks ((l.take j).map spW) (spW (l.getD j 0)) || mk1 p.months ((l.take j).map spM) (spM (l.getD j 0)) || mk1 p.years ((l.take j).map spY) (spY (l.getD j 0))) := by
  unfold pickL
  rw [kGo_at _ _ _ _ (by simp [kGo_length, lastL_length]), kGo_at _ _ _ _ (by simp [kGo_length, lastL_length]), kGo_at _ _ _ _ (by simp [kGo_length, lastL_length]), kGo_at _ _ _ _ (by simp [lastL_length]), lastL_get]
  simp [hj]
/-- Who keeps more keeps all. -/
theorem mk1_more {m m' : Int} (h : m ≤ m') (p : List KK) (k : KK) (hm : mk1 m p k = true) : mk1 m' p k = true := by
  unfold mk1 at *
  rw [Bool.and_eq_true, decide_eq_true_eq, decide_eq_true_eq] at *
  exact ⟨hm.1, by omega⟩
theorem keep_more {p q : Pol} (l : List Int) (h1 : p.last ≤ q.last) (h2 : p.days ≤ q.days) (h3 : p.weeks ≤ q.weeks) (h4 : p.months ≤ q.months) (h5 : p.years ≤ q.years) (j : Nat) (hj : j < l.length)
    (h : (pickL p l).getD j false = true) : (pickL q l).getD j false = true := by
  rw [pickL_at _ _ _ hj] at *
  simp only [Bool.or_eq_true, decide_eq_true_eq] at *
  rcases h with (((h | h) | h) | h) | h
  · exact Or.inl (Or.inl (Or.inl (Or.inl (by omega))))
  · exact Or.inl (Or.inl (Or.inl (Or.inr (mk1_more h2 _ _ h))))
  · exact Or.inl (Or.inl (Or.inr (mk1_more h3 _ _ h)))
  · exact Or.inl (Or.inr (mk1_more h4 _ _ h))
  · exact Or.inr (mk1_more h5 _ _ h)
/-- The times that are kept. -/
def pk : List Int → List Bool → List Int
  | t :: l, true :: b => t :: pk l b
  | _ :: l, false :: b => pk l b
  | _, _ => []
theorem pk_len : ∀ (l : List Int) (b : List Bool), (pk l b).length ≤ l.length
  | [], b => by cases b <;> simp [pk]
  | t :: l, [] => by simp [pk]
  | t :: l, true :: b => by have := pk_len l b; simp [pk]; exact this
  | t :: l, false :: b => by have := pk_len l b; simp [pk]; omega
theorem pk_sub : ∀ (l : List Int) (b : List Bool), (pk l b).Sublist l
  | [], b => by cases b <;> simp [pk]
  | t :: l, [] => by simp [pk]
  | t :: l, true :: b => by simp only [pk]; exact (pk_sub l b).cons_cons t
  | t :: l, false :: b => by simp only [pk]; exact (pk_sub l b).cons t
theorem pk_all : ∀ (l : List Int) (b : List Bool), b.length = l.length → (∀ j, j < b.length → b.getD j false = true) → pk l b = l
  | [], b, _, _ => by cases b <;> simp [pk]
  | t :: l, [], h, _ => by simp at h
  | t :: l, x :: b, h, hb => by
    have h0 : x = true := by simpa using hb 0 (by simp)
    subst h0
    simp only [pk]
    rw [pk_all l b (by simpa using h) (fun j hj => by simpa using hb (j + 1) (by simp; omega))]
/-- Each kept time comes from a place that is kept; what stands ahead of it there stood ahead of it here. -/
theorem pk_at : ∀ (l : List Int) (b : List Bool) (j : Nat), j < (pk l b).length → ∃ i, i < l.length ∧ b.getD i false = true ∧ (pk l b).getD j 0 = l.getD i 0 ∧ j ≤ i ∧ ((pk l b).take j).Sublist (l.take i)
  | [], b, j, h => by cases b <;> simp [pk] at h
  | t :: l, [], j, h => by simp [pk] at h
  | t :: l, true :: b, 0, h => ⟨0, by simp, by simp, by simp [pk], by omega, by simp⟩
  | t :: l, true :: b, j + 1, h => by
    simp only [pk, List.length_cons] at h
    obtain ⟨i, h1, h2, h3, h4, h5⟩ := pk_at l b j (by omega)
    refine ⟨i + 1, by simp; omega, by simpa using h2, by simpa [pk] using h3, by omega, ?_⟩
    simp only [pk, List.take_succ_cons]
    exact h5.cons_cons t
  | t :: l, false :: b, j, h => by
    simp only [pk] at h
    obtain ⟨i, h1, h2, h3, h4, h5⟩ := pk_at l b j h
    refine ⟨i + 1, by simp; omega, by simpa using h2, by simpa [pk] using h3, by omega, ?_⟩
    simp only [pk, List.take_succ_cons]
    exact h5.cons t
theorem mk1_sub {m : Int} {p q : List KK} (h : p.Sublist q) (k : KK) (hm : mk1 m q k = true) : mk1 m p k = true := by
  unfold mk1 at *
  rw [Bool.and_eq_true, decide_eq_true_eq, decide_eq_true_eq] at *
  have hs := h.subset
  have := fs_le (p := p) (q := q) (fun x hx => hs hx)
  exact ⟨fun hk => hm.1 (hs hk), by omega⟩
theorem keep_again (p : Pol) (l : List Int) : pk (pk l (pickL p l)) (pickL p (pk l (pickL p l))) = pk l (pickL p l) := by
  apply pk_all _ _ (pickL_length _ _)
  intro j hj
  rw [pickL_length] at hj
  obtain ⟨i, h1, h2, h3, h4, h5⟩ := pk_at l (pickL p l) j hj
  rw [pickL_at _ _ _ h1] at h2
  rw [pickL_at _ _ _ hj, h3]
  simp only [Bool.or_eq_true, decide_eq_true_eq] at *
  rcases h2 with (((h | h) | h) | h) | h
  · exact Or.inl (Or.inl (Or.inl (Or.inl (by omega))))
  · exact Or.inl (Or.inl (Or.inl (Or.inr (mk1_sub (h5.map _) _ h))))
  · exact Or.inl (Or.inl (Or.inr (mk1_sub (h5.map _) _ h)))
  · exact Or.inl (Or.inr (mk1_sub (h5.map _) _ h))
  · exact Or.inr (mk1_sub (h5.map _) _ h)
theorem tOK_sub {l m : List Int} (h : m.Sublist l) (hl : tOK l) : tOK m :=
  ⟨Nat.le_trans h.length_le hl.1, fun t ht => hl.2.1 t (h.subset ht), hl.2.2.sublist h⟩
/-- How many are kept. -/
def nT (b : List Bool) : Nat := b.countP id
theorem nT_set : ∀ (b : List Bool) (i : Nat), nT (b.set i true) ≤ nT b + 1
  | [], _ => by simp
  | x :: b, 0 => by cases x <;> simp [nT]
  | x :: b, i + 1 => by
    have := nT_set b i
    simp only [nT, List.set_cons_succ, List.countP_cons] at *
    omega
theorem nT_kGo (many : Int) (sp : Int → KK) (h0 : 0 ≤ many) : ∀ (l : List Int) (i : Nat) (seen : List KK) (out : List Bool), seen.length ≤ many.toNat → nT (kGo many sp l i seen out) + seen.length ≤ nT out + many.toNat
  | [], _, seen, out, h => by simp only [kGo]; omega
  | t :: l, i, seen, out, h => by
    rw [kGo]; split
    · rename_i hc
      have h1 := nT_kGo many sp h0 l (i + 1) (seen ++ [sp t]) (out.set i true) (by simp; omega)
      have h2 := nT_set out i
      simp only [List.length_append, List.length_singleton] at h1
      omega
    · exact nT_kGo many sp h0 l (i + 1) seen out h
theorem nT_lastL (last : Int) (h0 : 0 ≤ last) : ∀ n : Nat, nT (lastL last n) ≤ last.toNat ∧ nT (lastL last n) ≤ n
  | 0 => by simp [nT, lastL]
  | n + 1 => by
    have ih := nT_lastL last h0 n
    have : lastL last (n + 1) = lastL last n ++ [decide ((n : Int) < last)] := by simp [lastL, List.range_succ]
    rw [this]
    unfold nT at *
    rw [List.countP_append]
    by_cases h : (n : Int) < last
    · simp only [h, decide_true, List.countP_cons, List.countP_nil, id]
      constructor <;> simp <;> omega
    · simp only [h, decide_false, List.countP_cons, List.countP_nil, id]
      constructor <;> simp <;> omega
theorem pk_nT : ∀ (l : List Int) (b : List Bool), b.length = l.length → (pk l b).length = nT b
  | [], b, h => by
    have : b = [] := List.length_eq_zero_iff.1 (by simpa using h)
    subst this; simp [pk, nT]
  | t :: l, [], h => by simp at h
  | t :: l, true :: b, h => by have := pk_nT l b (by simpa using h); simp [pk, nT] at *; exact this
  | t :: l, false :: b, h => by have := pk_nT l b (by simpa using h); simp [pk, nT] at *; exact this
theorem keep_few (p : Pol) (hp : pOK p) (l : List Int) : ((pk l (pickL p l)).length : Int) ≤ p.last + p.days + p.weeks + p.months + p.years := by
  obtain ⟨⟨a1, a2⟩, ⟨b1, b2⟩, ⟨c1, c2⟩, ⟨d1, d2⟩, ⟨e1, e2⟩⟩ := hp
  rw [pk_nT _ _ (pickL_length _ _)]
  unfold pickL
  have h1 := nT_kGo p.years spY e1 l 0 [] (kGo p.months spM l 0 [] (kGo p.weeks spW l 0 [] (kGo p.days spD l 0 [] (lastL p.last l.length)))) (by simp)
  have h2 := nT_kGo p.months spM d1 l 0 [] (kGo p.weeks spW l 0 [] (kGo p.days spD l 0 [] (lastL p.last l.length))) (by simp)
  have h3 := nT_kGo p.weeks spW c1 l 0 [] (kGo p.days spD l 0 [] (lastL p.last l.length)) (by simp)
  have h4 := nT_kGo p.days spD b1 l 0 [] (lastL p.last l.length) (by simp)
  have h5 := (nT_lastL p.last a1 l.length).1
  simp only [List.length_nil] at *
  omega
theorem keep_first (p : Pol) (hp : pOK p) (l : List Int) (hl : 0 < l.length) : (pickL p l).getD 0 false = decide (0 < p.last + p.days + p.weeks + p.months + p.years) := by
  obtain ⟨⟨a1, a2⟩, ⟨b1, b2⟩, ⟨c1, c2⟩, ⟨d1, d2⟩, ⟨e1, e2⟩⟩ := hp
  rw [pickL_at _ _ _ hl, Bool.eq_iff_iff]
  simp only [mk1, List.take_zero, List.map_nil, fs_nil, List.not_mem_nil, not_false_eq_true, decide_true, Bool.true_and, List.length_nil, Bool.or_eq_true, decide_eq_true_eq]
  omega
/-- Years only fall. -/
theorem year_mono {a b : Int} (h0 : 0 ≤ a) (h : a ≤ b) (hb : b ≤ 4223371679) : dY (a / 1440) ≤ dY (b / 1440) := by
  have ha := dt_spec (a / 1440) (by omega) (by omega)
  have hb' := dt_spec (b / 1440) (by omega) (by omega)
  have h1 := ha.year
  have h2 := hb'.year
  have hd : a / 1440 ≤ b / 1440 := by omega
  by_cases hc : dY (a / 1440) ≤ dY (b / 1440)
  · exact hc
  · have := ybeg_mono (dY (b / 1440) + 1) (dY (a / 1440)) (by have := hb'.1; omega) (by omega)
    omega
/-- The walk over the years: the last year seen and how many there were. -/
def lastY (p : List Int) : Int := ((p.map fun t => dY (t / 1440)).getLast?).getD 0
theorem lastY_nil : lastY [] = 0 := rfl
theorem lastY_snoc (p : List Int) (t : Int) : lastY (p ++ [t]) = dY (t / 1440) := by simp [lastY]
theorem year_new (p : List Int) (t : Int) (h : tOK (p ++ [t])) : spY t ∈ p.map spY ↔ dY (t / 1440) = lastY p := by
  obtain ⟨_, h2, h3⟩ := h
  have ht := h2 t (by simp)
  have hty := dt_spec (t / 1440) (by omega) (by omega)
  refine snocInd (Q := fun p => (p ++ [t]).Pairwise (fun a b => b ≤ a) → (∀ x ∈ p ++ [t], 0 ≤ x ∧ x ≤ 4223371679) → (spY t ∈ p.map spY ↔ dY (t / 1440) = lastY p)) ?_ ?_ p h3 h2
  · intro _ _
    rw [lastY_nil]
    have := hty.1
    constructor
    · intro h; simp at h
    · intro h; omega
  · intro q a ih hp hb
    rw [lastY_snoc]
    simp only [List.map_append, List.map_cons, List.map_nil, List.mem_append, List.mem_singleton]
    constructor
    · rintro (h | h)
      · obtain ⟨x, hx, he⟩ := List.mem_map.1 h
        have e1 : dY (x / 1440) = dY (t / 1440) := congrArg Prod.fst he
        have hxa : a ≤ x := by
          rw [List.pairwise_append] at hp
          have := hp.1
          rw [List.pairwise_append] at this
          exact this.2.2 x hx a (by simp)
        have hta : t ≤ a := by
          rw [List.pairwise_append] at hp
          exact hp.2.2 a (by simp) t (by simp)
        have m1 := year_mono (a := t) (b := a) ht.1 hta (hb a (by simp)).2
        have m2 := year_mono (a := a) (b := x) (hb a (by simp)).1 hxa (hb x (by simp [hx])).2
        omega
      · exact congrArg Prod.fst h
    · intro h
      right
      simp [spY, h]
def nY (p : List Int) : Int := ((fs (p.map spY)).length : Nat)
theorem nY_nil : nY [] = 0 := rfl
theorem nY_snoc (p : List Int) (t : Int) (h : tOK (p ++ [t])) : nY (p ++ [t]) = if dY (t / 1440) = lastY p then nY p else nY p + 1 := by
  have hn := year_new p t h
  simp only [nY, List.map_append, List.map_cons, List.map_nil, fs_snoc, mem_fs, hn]
  by_cases hc : dY (t / 1440) = lastY p
  · simp [hc]
  · simp [hc]
theorem keep_years (n : Int) (l : List Int) (h : tOK l) (j : Nat) (hj : j < l.length) :
    (pickL ⟨0, 0, 0, 0, n⟩ l).getD j false = (decide (dY (l.getD j 0 / 1440) ≠ lastY (l.take j)) && decide (nY (l.take (j + 1)) ≤ n)) := by
  have hs : l.take (j + 1) = l.take j ++ [l.getD j 0] := by
    rw [List.take_add_one, List.getD_eq_getElem?_getD, List.getElem?_eq_getElem hj]; rfl
  have ht : tOK (l.take j ++ [l.getD j 0]) := by rw [← hs]; exact tOK_sub (List.take_sublist _ _) h
  have hn := year_new _ _ ht
  have hy := nY_snoc _ _ ht
  rw [pickL_at _ _ _ hj, hs, hy, Bool.eq_iff_iff]
  simp only [mk1, Bool.or_eq_true, Bool.and_eq_true, decide_eq_true_eq, hn]
  have hz : (((j : Nat) : Int) < 0) = False := eq_false (by omega)
  have hf : ∀ p : List KK, (((fs p).length : Int) < 0) = False := fun p => eq_false (by omega)
  simp only [hz, hf, and_false, false_or]
  constructor
  · rintro ⟨h1, h2⟩
    refine ⟨h1, ?_⟩
    rw [if_neg h1]; unfold nY; omega
  · rintro ⟨h1, h2⟩
    refine ⟨h1, ?_⟩
    rw [if_neg h1] at h2; unfold nY at h2; omega
end Plain
end Go.Proofs.Ythfjonicolhjnaa
