/- Plain laws of the marker: heaps, what acts do, what holds while marking goes on. -/
import Derived.Test.YtgoocmocdimnoaaGraphPlain
namespace Go.Proofs.Ytgoocmocdimnoaa
namespace Plain
/-- a thing: its kids, its colour, is it free? -/
abbrev Thg := List Int × Int × Bool
/-- a heap: its things, its roots, is it busy? -/
abbrev Hp := List Thg × List Int × Bool
def There (ts : List Thg) (k : Int) : Prop := 0 ≤ k ∧ ∃ t, ts[k.toNat]? = some t ∧ t.2.2 = false
def TOk (ts : List Thg) (t : Thg) : Prop := t.1.length ≤ 64 ∧ 0 ≤ t.2.1 ∧ t.2.1 ≤ 2 ∧ (t.2.2 = true → t.1 = [] ∧ t.2.1 = 0) ∧ ∀ k ∈ t.1, There ts k
def HOk (h : Hp) : Prop := h.1.length ≤ 40 ∧ h.2.1.length ≤ 64 ∧ (∀ t ∈ h.1, TOk h.1 t) ∧ ∀ k ∈ h.2.1, There h.1 k
/-- the kids' lists -/
def kidsOf (ts : List Thg) : List (List Int) := ts.map (·.1)
/-- what is live -/
def Lv (h : Hp) (k : Int) : Prop := 0 ≤ k ∧ Rch (kidsOf h.1) h.2.1 k.toNat
def paint (ts : List Thg) (k : Int) (c : Int) : List Thg := match ts[k.toNat]? with
  | some t => ts.set k.toNat (t.1, c, t.2.2)
  | none => ts
def shade (b : Bool) (ts : List Thg) (k : Int) : List Thg := match ts[k.toNat]? with
  | some t => if b && t.2.1 == 0 then ts.set k.toNat (t.1, 1, t.2.2) else ts
  | none => ts
def sweepT (t : Thg) : Thg := if t.2.1 = 0 then ([], 0, true) else (t.1, 0, t.2.2)
def greyAt (ts : List Thg) : Option Nat := ts.findIdx? (fun t => t.2.1 == 1)
def freeAt (ts : List Thg) : Option Nat := ts.findIdx? (fun t => t.2.2)
def markF (h : Hp) : Hp := match h.2.2 with
  | false => (h.2.1.foldl (fun ts k => paint ts k 1) (h.1.map (fun t => (t.1, 0, t.2.2))), h.2.1, true)
  | true => match greyAt h.1 with
    | some i => ((kidsOf h.1).getD i [] |>.foldl (shade true) (paint h.1 i 2), h.2.1, true)
    | none => (h.1.map sweepT, h.2.1, false)
def rootF (h : Hp) (k : Int) : Option Hp := if 64 ≤ h.2.1.length then none else some (shade h.2.2 h.1 k, h.2.1 ++ [k], h.2.2)
def newT : Thg := ([], 0, false)
def freshF (h : Hp) : Option Hp := match freeAt h.1 with
  | some i => rootF (h.1.set i newT, h.2.1, h.2.2) i
  | none => if 40 ≤ h.1.length then none else rootF (h.1 ++ [newT], h.2.1, h.2.2) h.1.length
open Classical in
noncomputable def linkF (h : Hp) (a b : Int) : Option Hp := if Lv h a ∧ Lv h b then match h.1[a.toNat]? with
    | some t => if 64 ≤ t.1.length then none else some (shade h.2.2 (h.1.set a.toNat (t.1 ++ [b], t.2)) b, h.2.1, h.2.2)
    | none => none
  else none
open Classical in
noncomputable def cutF (h : Hp) (a b : Int) : Option Hp := if Lv h a then match h.1[a.toNat]? with
    | some t => if 0 ≤ b ∧ b.toNat < t.1.length then some (h.1.set a.toNat (t.1.eraseIdx b.toNat, t.2), h.2.1, h.2.2) else none
    | none => none
  else none
open Classical in
noncomputable def holdF (h : Hp) (k : Int) : Option Hp := if Lv h k then rootF h k else none
def dropF (h : Hp) (k : Int) : Option Hp := if 0 ≤ k ∧ k.toNat < h.2.1.length then some (h.1, h.2.1.eraseIdx k.toNat, h.2.2) else none
/-- an act: its kind, from, to -/
abbrev Ac := Int × Int × Int
noncomputable def stepF (h : Hp) (a : Ac) : Option Hp :=
  if a.1 = 1 then some (markF h) else if a.1 = 2 then freshF h else if a.1 = 3 then linkF h a.2.1 a.2.2 else if a.1 = 4 then cutF h a.2.1 a.2.2
  else if a.1 = 5 then holdF h a.2.2 else if a.1 = 6 then dropF h a.2.2 else none
open Classical in
noncomputable def doF (h : Hp) (a : Ac) : Option Hp := if HOk h then stepF h a else none
/-! shading -/
/-- some at S were shaded -/
def Up (S : Nat → Prop) (ts us : List Thg) : Prop := us.length = ts.length ∧ ∀ (i : Nat) (t : Thg), ts[i]? = some t → ∃ u, us[i]? = some u ∧ u.1 = t.1 ∧ u.2.2 = t.2.2 ∧ (u.2.1 = t.2.1 ∨ S i ∧ t.2.1 = 0 ∧ u.2.1 = 1 ∧ t.2.2 = false)
theorem Up.refl (S : Nat → Prop) (ts : List Thg) : Up S ts ts := ⟨rfl, fun _ t h => ⟨t, h, rfl, rfl, .inl rfl⟩⟩
theorem Up.trans {S T : Nat → Prop} {a b c : List Thg} (h : Up S a b) (k : Up T b c) : Up (fun i => S i ∨ T i) a c := by
  refine ⟨k.1.trans h.1, fun i t ht => ?_⟩
  obtain ⟨u, hu, h1, h2, h3⟩ := h.2 i t ht
  obtain ⟨v, hv, k1, k2, k3⟩ := k.2 i u hu
  refine ⟨v, hv, k1.trans h1, k2.trans h2, ?_⟩
  rcases h3 with h3 | ⟨a1, a2, a3, a4⟩
  · rcases k3 with k3 | ⟨b1, b2, b3, b4⟩
    · exact .inl (k3.trans h3)
    · exact .inr ⟨.inr b1, h3 ▸ b2, b3, h2 ▸ b4⟩
  · rcases k3 with k3 | ⟨b1, b2, b3, b4⟩
    · exact .inr ⟨.inl a1, a2, k3.trans a3, a4⟩
    · rw [a3] at b2; cases b2
theorem Up.weak {S T : Nat → Prop} {a b : List Thg} (h : Up S a b) (hs : ∀ i, S i → T i) : Up T a b := by
  refine ⟨h.1, fun i t ht => ?_⟩
  obtain ⟨u, hu, h1, h2, h3⟩ := h.2 i t ht
  exact ⟨u, hu, h1, h2, h3.imp id fun ⟨x, y⟩ => ⟨hs _ x, y⟩⟩
theorem Up.back {S : Nat → Prop} {ts us : List Thg} (h : Up S ts us) {i : Nat} {u : Thg} (hu : us[i]? = some u) : ∃ t, ts[i]? = some t ∧ u.1 = t.1 ∧ u.2.2 = t.2.2 ∧ (u.2.1 = t.2.1 ∨ S i ∧ t.2.1 = 0 ∧ u.2.1 = 1 ∧ t.2.2 = false) := by
  have hlt : i < ts.length := by rw [← h.1]; exact (List.getElem?_eq_some_iff.1 hu).1
  obtain ⟨v, hv, x⟩ := h.2 i ts[i] (List.getElem?_eq_getElem hlt)
  rw [hv] at hu
  injection hu with hu
  subst hu
  exact ⟨_, List.getElem?_eq_getElem hlt, x⟩
theorem Up.there {S : Nat → Prop} {ts us : List Thg} (h : Up S ts us) {k : Int} (hk : There ts k) : There us k := by
  obtain ⟨h0, t, ht, hf⟩ := hk
  obtain ⟨u, hu, _, h2, _⟩ := h.2 _ t ht
  exact ⟨h0, u, hu, h2.trans hf⟩
theorem Up.kids {S : Nat → Prop} {ts us : List Thg} (h : Up S ts us) : kidsOf us = kidsOf ts := by
  apply List.ext_getElem?
  intro i
  unfold kidsOf
  rw [List.getElem?_map, List.getElem?_map]
  cases ht : ts[i]? with
  | some t =>
    obtain ⟨u, hu, h1, _⟩ := h.2 i t ht
    rw [hu]
    show some u.1 = some t.1
    rw [h1]
  | none =>
    have : us[i]? = none := by
      rw [List.getElem?_eq_none_iff] at ht ⊢
      rw [h.1]; exact ht
    rw [this]
/-- is not White -/
def Dark (ts : List Thg) (k : Nat) : Prop := ∀ t : Thg, ts[k]? = some t → t.2.1 ≠ 0
theorem Up.dark {S : Nat → Prop} {ts us : List Thg} (h : Up S ts us) {k : Nat} (hk : Dark ts k) : Dark us k := by
  intro u hu
  obtain ⟨t, ht, _, _, h3⟩ := h.back hu
  rcases h3 with h3 | ⟨_, h4, _⟩
  · rw [h3]; exact hk t ht
  · exact absurd h4 (hk t ht)
theorem Up.hok {S : Nat → Prop} {ts us : List Thg} {rs : List Int} {b c : Bool} (h : Up S ts us) (hk : HOk (ts, rs, b)) : HOk (us, rs, c) := by
  obtain ⟨h1, h2, h3, h4⟩ := hk
  refine ⟨by show us.length ≤ 40; rw [h.1]; exact h1, h2, fun u hu => ?_, fun k hk => h.there (h4 k hk)⟩
  obtain ⟨i, hi⟩ := List.getElem?_of_mem hu
  obtain ⟨t, ht, e1, e2, e3⟩ := h.back hi
  obtain ⟨k1, k2, k3, k4, k5⟩ := h3 t (List.mem_of_getElem? ht)
  refine ⟨by rw [e1]; exact k1, ?_, ?_, fun hf => ?_, fun k hk => h.there (k5 k (e1 ▸ hk))⟩
  · rcases e3 with e | ⟨_, _, e, _⟩ <;> rw [e]
    · exact k2
    · decide
  · rcases e3 with e | ⟨_, _, e, _⟩ <;> rw [e]
    · exact k3
    · decide
  · rw [e2] at hf
    obtain ⟨a, c⟩ := k4 hf
    refine ⟨e1.trans a, ?_⟩
    rcases e3 with e | ⟨_, _, _, e⟩
    · exact e.trans c
    · rw [e] at hf; cases hf
theorem shade_up (b : Bool) (ts : List Thg) (k : Int) (hk : There ts k) : Up (fun i => (i : Int) = k) ts (shade b ts k) ∧ (b = true → Dark (shade b ts k) k.toNat) := by
  obtain ⟨h0, t, ht, hf⟩ := hk
  have hlt := (List.getElem?_eq_some_iff.1 ht).1
  unfold shade
  rw [ht]
  simp only
  by_cases hc : (b && t.2.1 == 0) = true
  · rw [if_pos hc]
    rw [Bool.and_eq_true] at hc
    have hc0 : t.2.1 = 0 := by simpa using hc.2
    refine ⟨⟨by rw [List.length_set], fun i x hx => ?_⟩, fun _ u hu => ?_⟩
    · by_cases hi : k.toNat = i
      · subst hi
        rw [ht] at hx
        injection hx with hx
        subst hx
        exact ⟨(t.1, 1, t.2.2), by rw [List.getElem?_set_self hlt], rfl, rfl, .inr ⟨by omega, hc0, rfl, hf⟩⟩
      · exact ⟨x, by rw [List.getElem?_set_ne hi]; exact hx, rfl, rfl, .inl rfl⟩
    · rw [List.getElem?_set_self hlt] at hu
      injection hu with hu
      subst hu
      exact (by decide : ¬ (1 : Int) = 0)
  · rw [if_neg hc]
    refine ⟨Up.refl _ _, fun hb u hu => ?_⟩
    rw [ht] at hu
    injection hu with hu
    subst hu
    intro h
    exact hc (by simp [hb, h])
theorem shades_up (ks : List Int) : ∀ ts, (∀ k ∈ ks, There ts k) → Up (fun i => (i : Int) ∈ ks) ts (ks.foldl (shade true) ts) ∧ ∀ k ∈ ks, Dark (ks.foldl (shade true) ts) k.toNat := by
  induction ks with
  | nil => intro ts _; exact ⟨Up.refl _ _, fun k hk => absurd hk (by simp)⟩
  | cons k ks ih =>
    intro ts h
    obtain ⟨u1, d1⟩ := shade_up true ts k (h k (by simp))
    obtain ⟨u2, d2⟩ := ih (shade true ts k) (fun x hx => u1.there (h x (by simp [hx])))
    refine ⟨(u1.trans u2).weak fun i hi => ?_, fun x hx => ?_⟩
    · rcases hi with hi | hi
      · rw [hi]; simp
      · simp [hi]
    · rcases List.mem_cons.1 hx with rfl | hx
      · exact u2.dark (d1 rfl)
      · exact d2 x hx
/-! what holds while marking goes on -/
def Inv (h : Hp) : Prop := HOk h ∧ (h.2.2 = true → (∀ k ∈ h.2.1, Dark h.1 k.toNat) ∧ ∀ (i : Nat) (t : Thg), h.1[i]? = some t → t.2.1 = 2 → ∀ k ∈ t.1, Dark h.1 k.toNat)
theorem HOk.thing {h : Hp} (hk : HOk h) {i : Nat} {t : Thg} (ht : h.1[i]? = some t) : TOk h.1 t := hk.2.2.1 t (List.mem_of_getElem? ht)
theorem kids_mem {ts : List Thg} {i : Nat} {k : Int} : k ∈ (kidsOf ts).getD i [] ↔ ∃ t, ts[i]? = some t ∧ k ∈ t.1 := by
  unfold kidsOf
  rw [List.getD_eq_getElem?_getD, List.getElem?_map]
  cases h : ts[i]? with
  | none => simp
  | some t => simp
theorem HOk.gok {h : Hp} (hk : HOk h) : Gok (kidsOf h.1) ∧ Rok (kidsOf h.1) h.2.1 := by
  have hl : (kidsOf h.1).length = h.1.length := by simp [kidsOf]
  have hth : ∀ k, There h.1 k → 0 ≤ k ∧ k < (kidsOf h.1).length := by
    rintro k ⟨h0, t, ht, _⟩
    have := (List.getElem?_eq_some_iff.1 ht).1
    exact ⟨h0, by rw [hl]; omega⟩
  refine ⟨⟨by rw [hl]; have := hk.1; omega, fun r hr => ?_⟩, hk.2.1, fun k hx => hth k (hk.2.2.2 k hx)⟩
  unfold kidsOf at hr
  obtain ⟨t, ht, rfl⟩ := List.mem_map.1 hr
  have := hk.2.2.1 t ht
  exact ⟨this.1, fun k hx => hth k (this.2.2.2.2 k hx)⟩
theorem HOk.live {h : Hp} (hk : HOk h) {i : Nat} (hi : Rch (kidsOf h.1) h.2.1 i) : There h.1 (i : Int) := by
  cases hi with
  | root hm => exact hk.2.2.2 _ hm
  | step _ hm =>
    obtain ⟨t, ht, hm⟩ := kids_mem.1 hm
    exact (hk.thing ht).2.2.2.2 _ hm
theorem Lv.there {h : Hp} (hk : HOk h) {k : Int} (hl : Lv h k) : There h.1 k := by
  have := hk.live hl.2
  rwa [Int.toNat_of_nonneg hl.1] at this
/-- with a new list of things of which each thing that was there is there -/
theorem There.mono {ts us : List Thg} (h : ∀ (i : Nat) (t : Thg), ts[i]? = some t → t.2.2 = false → ∃ u, us[i]? = some u ∧ u.2.2 = false) {k : Int} (hk : There ts k) : There us k := by
  obtain ⟨h0, t, ht, hf⟩ := hk
  obtain ⟨u, hu, hf'⟩ := h _ t ht hf
  exact ⟨h0, u, hu, hf'⟩
theorem set_there {ts : List Thg} {i : Nat} {x : Thg} (hx : x.2.2 = false) {k : Int} (hk : There ts k) : There (ts.set i x) k := by
  refine hk.mono fun j t ht hf => ?_
  by_cases h : i = j
  · subst h
    exact ⟨x, List.getElem?_set_self (List.getElem?_eq_some_iff.1 ht).1, hx⟩
  · exact ⟨t, by rw [List.getElem?_set_ne h]; exact ht, hf⟩
/-- a thing is laid anew -/
theorem set_hok {ts : List Thg} {rs : List Int} {b : Bool} {i : Nat} {x : Thg} (hk : HOk (ts, rs, b)) (hx : x.2.2 = false) (hx1 : x.1.length ≤ 64) (hx2 : 0 ≤ x.2.1 ∧ x.2.1 ≤ 2) (hx3 : ∀ k ∈ x.1, There (ts.set i x) k) : HOk (ts.set i x, rs, b) := by
  refine ⟨by show (ts.set i x).length ≤ 40; rw [List.length_set]; exact hk.1, hk.2.1, fun t ht => ?_, fun k h => set_there hx (hk.2.2.2 k h)⟩
  rcases List.mem_or_eq_of_mem_set ht with h | h
  · obtain ⟨a, b, c, d, e⟩ := hk.2.2.1 t h
    exact ⟨a, b, c, d, fun k hk => set_there hx (e k hk)⟩
  · subst h
    exact ⟨hx1, hx2.1, hx2.2, fun h => (Bool.noConfusion (hx.symm.trans h)), hx3⟩
theorem app_hok {ts : List Thg} {rs : List Int} {b : Bool} (hk : HOk (ts, rs, b)) (h40 : ts.length < 40) : HOk (ts ++ [newT], rs, b) := by
  have hth : ∀ {k}, There ts k → There (ts ++ [newT]) k := fun h => h.mono fun j t ht hf => ⟨t, by rw [List.getElem?_append_left (List.getElem?_eq_some_iff.1 ht).1]; exact ht, hf⟩
  refine ⟨by show (ts ++ [newT]).length ≤ 40; simp; omega, hk.2.1, fun t ht => ?_, fun k h => hth (hk.2.2.2 k h)⟩
  rcases List.mem_append.1 ht with h | h
  · obtain ⟨a, b, c, d, e⟩ := hk.2.2.1 t h
    exact ⟨a, b, c, d, fun k hk => hth (e k hk)⟩
  · simp only [List.mem_singleton] at h
    subst h
    exact ⟨by decide, by decide, by decide, fun h => Bool.noConfusion h, fun k hk => absurd hk (by simp [newT])⟩
/-- busy marking's dark ones stay when a thing is laid anew -/
theorem set_dark {ts : List Thg} {i : Nat} {x : Thg} {k : Nat} (hk : Dark ts k) (h : i = k → x.2.1 ≠ 0) : Dark (ts.set i x) k := by
  intro t ht
  by_cases e : i = k
  · subst e
    by_cases hl : i < ts.length
    · rw [List.getElem?_set_self hl] at ht
      injection ht with ht
      subst ht
      exact h rfl
    · rw [List.getElem?_eq_none (by rw [List.length_set]; omega)] at ht
      cases ht
  · rw [List.getElem?_set_ne e] at ht
    exact hk t ht
/-- what marking asks for, apart from the heap being right -/
def Mk (ts : List Thg) (rs : List Int) : Prop := (∀ k ∈ rs, Dark ts k.toNat) ∧ ∀ (i : Nat) (t : Thg), ts[i]? = some t → t.2.1 = 2 → ∀ k ∈ t.1, Dark ts k.toNat
theorem Up.mk {S : Nat → Prop} {ts us : List Thg} {rs : List Int} (h : Up S ts us) (hm : Mk ts rs) : Mk us rs := by
  refine ⟨fun k hk => h.dark (hm.1 k hk), fun i u hu h2 k hk => ?_⟩
  obtain ⟨t, ht, e1, _, e3⟩ := h.back hu
  refine h.dark (hm.2 i t ht ?_ k (e1 ▸ hk))
  rcases e3 with e | ⟨_, _, e, _⟩
  · rw [← e]; exact h2
  · rw [e] at h2; cases h2
/-- a root more -/
theorem root_inv {ts : List Thg} {rs : List Int} {b : Bool} {k : Int} {g : Hp} (hk : HOk (ts, rs, b)) (hm : b = true → Mk ts rs) (ht : There ts k) (hg : rootF (ts, rs, b) k = some g) : Inv g ∧ g.2.1 = rs ++ [k] ∧ g.2.2 = b ∧ Up (fun i => (i : Int) = k) ts g.1 := by
  unfold rootF at hg
  simp only at hg
  split at hg
  · cases hg
  · rename_i h64
    injection hg with hg
    subst hg
    obtain ⟨u, d⟩ := shade_up b ts k ht
    have ho := u.hok (c := b) hk
    refine ⟨⟨⟨ho.1, by show (rs ++ [k]).length ≤ 64; simp; omega, ho.2.2.1, fun x hx => ?_⟩, fun hb => ?_⟩, rfl, rfl, u⟩
    · rcases List.mem_append.1 hx with h | h
      · exact ho.2.2.2 x h
      · simp only [List.mem_singleton] at h
        subst h
        exact u.there ht
    · have hmu := u.mk (hm hb)
      refine ⟨fun x hx => ?_, hmu.2⟩
      rcases List.mem_append.1 hx with h | h
      · exact hmu.1 x h
      · simp only [List.mem_singleton] at h
        subst h
        exact d hb
end Plain
end Go.Proofs.Ytgoocmocdimnoaa
