/- Plain laws of the marker: every act keeps what holds; what is live stays; what was dead is freed; marking ends. -/
import Derived.Test.YtgoocmocdimnoaaSweepPlain
namespace Go.Proofs.Ytgoocmocdimnoaa
namespace Plain
theorem white_hok {ts : List Thg} {rs : List Int} {b c : Bool} (hk : HOk (ts, rs, b)) : HOk (ts.map (fun t => (t.1, 0, t.2.2)), rs, c) := by
  have hth : ∀ {k}, There ts k → There (ts.map (fun t => (t.1, 0, t.2.2))) k := fun h => h.mono fun j t ht hf => ⟨(t.1, 0, t.2.2), by rw [List.getElem?_map, ht]; rfl, hf⟩
  refine ⟨by show (List.map _ ts).length ≤ 40; rw [List.length_map]; exact hk.1, hk.2.1, fun t ht => ?_, fun k h => hth (hk.2.2.2 k h)⟩
  obtain ⟨u, hu, rfl⟩ := List.mem_map.1 ht
  obtain ⟨a, b, c, d, e⟩ := hk.2.2.1 u hu
  exact ⟨a, (by show (0 : Int) ≤ 0; decide), (by show (0 : Int) ≤ 2; decide), fun hf => ⟨(d hf).1, rfl⟩, fun k hk => hth (e k hk)⟩
theorem paint_shade {ts : List Thg} (h : ∀ t ∈ ts, t.2.1 = 0 ∨ t.2.1 = 1) (k : Int) : paint ts k 1 = shade true ts k := by
  unfold paint shade
  cases ht : ts[k.toNat]? with
  | none => rfl
  | some t =>
    simp only
    rcases h t (List.mem_of_getElem? ht) with h | h
    · rw [if_pos (by simp [h])]
    · rw [if_neg (by simp [h])]
      obtain ⟨hlt, e⟩ := List.getElem?_eq_some_iff.1 ht
      have : (t.1, (1 : Int), t.2.2) = ts[k.toNat] := by rw [e, ← h]
      rw [this]
      exact List.set_getElem_self hlt
theorem shade_two {b : Bool} {ts : List Thg} (h : ∀ t ∈ ts, t.2.1 = 0 ∨ t.2.1 = 1) (k : Int) : ∀ t ∈ shade b ts k, t.2.1 = 0 ∨ t.2.1 = 1 := by
  unfold shade
  cases ht : ts[k.toNat]? with
  | none => exact h
  | some t =>
    simp only
    split
    · intro u hu
      rcases List.mem_or_eq_of_mem_set hu with hu | hu
      · exact h u hu
      · subst hu; exact .inr rfl
    · exact h
theorem paints_shades (ks : List Int) : ∀ ts : List Thg, (∀ t ∈ ts, t.2.1 = 0 ∨ t.2.1 = 1) → ks.foldl (fun ts k => paint ts k 1) ts = ks.foldl (shade true) ts := by
  induction ks with
  | nil => intro ts _; rfl
  | cons k ks ih =>
    intro ts h
    rw [List.foldl_cons, List.foldl_cons, paint_shade h, ih _ (shade_two h k)]
/-- marking begins -/
theorem begin_up {ts : List Thg} {rs : List Int} (hk : HOk (ts, rs, false)) : ∃ us, markF (ts, rs, false) = (us, rs, true) ∧ Up (fun i => (i : Int) ∈ rs) (ts.map (fun t => (t.1, 0, t.2.2))) us ∧ ∀ k ∈ rs, Dark us k.toNat := by
  have hw := white_hok (c := false) hk
  obtain ⟨u, d⟩ := shades_up rs _ (fun k hx => hw.2.2.2 k hx)
  refine ⟨_, rfl, ?_, ?_⟩
  · rw [paints_shades rs _ (fun t ht => by obtain ⟨u, _, rfl⟩ := List.mem_map.1 ht; exact .inl rfl)]; exact u
  · rw [paints_shades rs _ (fun t ht => by obtain ⟨u, _, rfl⟩ := List.mem_map.1 ht; exact .inl rfl)]; exact d
theorem begin_inv {ts : List Thg} {rs : List Int} (hk : HOk (ts, rs, false)) : Inv (markF (ts, rs, false)) := by
  obtain ⟨us, e, u, d⟩ := begin_up hk
  rw [e]
  refine ⟨u.hok (white_hok (c := false) hk), fun _ => ⟨d, fun i t ht h2 => ?_⟩⟩
  obtain ⟨x, hx, _, _, h3⟩ := u.back ht
  rw [List.getElem?_map] at hx
  cases hy : ts[i]? with
  | none => rw [hy] at hx; cases hx
  | some y =>
    rw [hy] at hx
    injection hx with hx
    subst hx
    rw [h2] at h3
    rcases h3 with h | ⟨_, _, h, _⟩ <;> cases h
theorem grey_some {ts : List Thg} {i : Nat} (h : greyAt ts = some i) : ∃ t, ts[i]? = some t ∧ t.2.1 = 1 := by
  obtain ⟨hl, hp, _⟩ := List.findIdx?_eq_some_iff_getElem.1 h
  exact ⟨ts[i], List.getElem?_eq_getElem hl, by simpa using hp⟩
theorem grey_none {ts : List Thg} (h : greyAt ts = none) : ∀ (i : Nat) (t : Thg), ts[i]? = some t → t.2.1 ≠ 1 := by
  intro i t ht e
  have := List.findIdx?_eq_none_iff.1 h t (List.mem_of_getElem? ht)
  simp [e] at this
theorem free_some {ts : List Thg} {i : Nat} (h : freeAt ts = some i) : ∃ t, ts[i]? = some t ∧ t.2.2 = true := by
  obtain ⟨hl, hp, _⟩ := List.findIdx?_eq_some_iff_getElem.1 h
  exact ⟨ts[i], List.getElem?_eq_getElem hl, hp⟩
/-- one grey thing becomes black -/
theorem grey_step {ts : List Thg} {rs : List Int} {i : Nat} (hv : Inv (ts, rs, true)) (hg : greyAt ts = some i) : ∃ t us, ts[i]? = some t ∧ t.2.1 = 1 ∧ t.2.2 = false ∧ markF (ts, rs, true) = (us, rs, true) ∧ HOk (ts.set i (t.1, 2, t.2.2), rs, true) ∧ Up (fun j => (j : Int) ∈ t.1) (ts.set i (t.1, 2, t.2.2)) us ∧ ∀ k ∈ t.1, Dark us k.toNat := by
  obtain ⟨t, ht, h1⟩ := grey_some hg
  have hok := hv.1.thing ht
  have hf : t.2.2 = false := by
    cases hf : t.2.2 with
    | false => rfl
    | true => have := (hok.2.2.2.1 hf).2; rw [h1] at this; cases this
  have hk1 : HOk (ts.set i (t.1, 2, t.2.2), rs, true) := set_hok hv.1 hf hok.1 ⟨(by show (0 : Int) ≤ 2; decide), (by show (2 : Int) ≤ 2; decide)⟩ (fun k hk => set_there (by exact hf) (hok.2.2.2.2 k hk))
  have hth : ∀ k ∈ t.1, There (ts.set i (t.1, 2, t.2.2)) k := fun k hk => set_there (by exact hf) (hok.2.2.2.2 k hk)
  obtain ⟨u, d⟩ := shades_up t.1 _ hth
  refine ⟨t, _, ht, h1, hf, ?_, hk1, u, d⟩
  have e1 : (kidsOf ts).getD i [] = t.1 := by
    unfold kidsOf
    rw [List.getD_eq_getElem?_getD, List.getElem?_map, ht]
    rfl
  have e2 : paint ts i 2 = ts.set i (t.1, 2, t.2.2) := by
    unfold paint
    rw [Int.toNat_natCast, ht]
  unfold markF
  simp only [hg, e1, e2]
theorem grey_inv {ts : List Thg} {rs : List Int} {i : Nat} (hv : Inv (ts, rs, true)) (hg : greyAt ts = some i) : Inv (markF (ts, rs, true)) := by
  obtain ⟨t, us, ht, h1, hf, e, hk1, u, d⟩ := grey_step hv hg
  have hm : Mk ts rs := hv.2 rfl
  have hd : ∀ {k}, Dark ts k → Dark (ts.set i (t.1, 2, t.2.2)) k := fun h => set_dark h (fun _ => (by show ¬ (2 : Int) = 0; decide))
  rw [e]
  refine ⟨u.hok hk1, fun _ => ⟨fun k hk => u.dark (hd (hm.1 k hk)), fun j x hx h2 k hk => ?_⟩⟩
  obtain ⟨y, hy, e1, _, e3⟩ := u.back hx
  by_cases hij : i = j
  · subst hij
    rw [List.getElem?_set_self (List.getElem?_eq_some_iff.1 ht).1] at hy
    injection hy with hy
    subst hy
    exact d k (e1 ▸ hk)
  · rw [List.getElem?_set_ne hij] at hy
    have h2y : y.2.1 = 2 := by
      rcases e3 with e | ⟨_, _, e, _⟩
      · rw [← e]; exact h2
      · rw [e] at h2; cases h2
    exact u.dark (hd (hm.2 j y hy h2y k (e1 ▸ hk)))
theorem sweep_eq {ts : List Thg} {rs : List Int} (hg : greyAt ts = none) : markF (ts, rs, true) = (ts.map sweepT, rs, false) := by
  unfold markF
  simp only [hg]
theorem sweep_there {ts : List Thg} {k : Int} (h : There ts k) (hd : Dark ts k.toNat) : There (ts.map sweepT) k := by
  obtain ⟨h0, t, ht, hf⟩ := h
  refine ⟨h0, sweepT t, by rw [List.getElem?_map, ht]; rfl, ?_⟩
  unfold sweepT
  rw [if_neg (hd t ht)]
  exact hf
theorem black_of {ts : List Thg} {rs : List Int} {b : Bool} (hk : HOk (ts, rs, b)) (hg : greyAt ts = none) {i : Nat} {t : Thg} (ht : ts[i]? = some t) (h0 : t.2.1 ≠ 0) : t.2.1 = 2 := by
  have h1 := grey_none hg i t ht
  have := hk.thing ht
  have a := this.2.1
  have b := this.2.2.1
  omega
theorem sweep_inv {ts : List Thg} {rs : List Int} (hv : Inv (ts, rs, true)) (hg : greyAt ts = none) : Inv (markF (ts, rs, true)) := by
  have hm : Mk ts rs := hv.2 rfl
  rw [sweep_eq hg]
  refine ⟨⟨by show (ts.map sweepT).length ≤ 40; rw [List.length_map]; exact hv.1.1, hv.1.2.1, fun x hx => ?_, fun k hk => sweep_there (hv.1.2.2.2 k hk) (hm.1 k hk)⟩, fun h => Bool.noConfusion h⟩
  obtain ⟨t, ht, rfl⟩ := List.mem_map.1 hx
  obtain ⟨i, hi⟩ := List.getElem?_of_mem ht
  obtain ⟨a, b, c, d, e⟩ := hv.1.thing hi
  unfold sweepT
  by_cases h0 : t.2.1 = 0
  · rw [if_pos h0]
    exact ⟨by decide, by decide, by decide, fun _ => ⟨rfl, rfl⟩, fun k hk => absurd hk (by simp)⟩
  · rw [if_neg h0]
    exact ⟨a, (by show (0 : Int) ≤ 0; decide), (by show (0 : Int) ≤ 2; decide), fun hf => ⟨(d hf).1, rfl⟩, fun k hk => sweep_there (e k hk) (hm.2 i t hi (black_of hv.1 hg hi h0) k hk)⟩
/-- what is live is dark when no thing is grey -/
theorem live_dark {ts : List Thg} {rs : List Int} (hv : Inv (ts, rs, true)) (hg : greyAt ts = none) {i : Nat} (hi : Rch (kidsOf ts) rs i) : Dark ts i := by
  have hm : Mk ts rs := hv.2 rfl
  induction hi with
  | root h => simpa using hm.1 _ h
  | @step i k hi h ih =>
    obtain ⟨t, ht, hk⟩ := kids_mem.1 h
    have := hm.2 i t ht (black_of hv.1 hg ht (ih t ht)) _ hk
    simpa using this
/-! the acts of the program -/
theorem fresh_all {ts : List Thg} {rs : List Int} {b : Bool} {g : Hp} (hv : Inv (ts, rs, b)) (hg : freshF (ts, rs, b) = some g) : ∃ vs k, HOk (vs, rs, b) ∧ (b = true → Mk vs rs) ∧ There vs k ∧ rootF (vs, rs, b) k = some g ∧ (∀ x, There ts x → There vs x) ∧
    ((∃ i, freeAt ts = some i ∧ vs = ts.set i newT ∧ k = (i : Int)) ∨ vs = ts ++ [newT] ∧ k = (ts.length : Int)) := by
  unfold freshF at hg
  simp only at hg
  cases hfr : freeAt ts with
  | some i =>
    rw [hfr] at hg
    simp only at hg
    obtain ⟨t, ht, hf⟩ := free_some hfr
    have hlt := (List.getElem?_eq_some_iff.1 ht).1
    have hok := hv.1.thing ht
    have hw := (hok.2.2.2.1 hf).2
    have hne : ∀ {k}, Dark ts k → i = k → newT.2.1 ≠ 0 := fun hd e => by subst e; exact absurd hw (hd t ht)
    have hth : There (ts.set i newT) (i : Int) := ⟨by omega, newT, by rw [Int.toNat_natCast, List.getElem?_set_self hlt], rfl⟩
    refine ⟨_, _, set_hok hv.1 rfl (by decide) (by decide) (fun k hk => absurd hk (by simp [newT])), fun hb => ?_, hth, hg, fun x hx => set_there rfl hx, .inl ⟨i, rfl, rfl, rfl⟩⟩
    have hm : Mk ts rs := hv.2 hb
    refine ⟨fun k hk => set_dark (hm.1 k hk) (hne (hm.1 k hk)), fun j x hx h2 k hk => ?_⟩
    by_cases hij : i = j
    · subst hij
      rw [List.getElem?_set_self hlt] at hx
      injection hx with hx
      subst hx
      cases h2
    · rw [List.getElem?_set_ne hij] at hx
      have := hm.2 j x hx h2 k hk
      exact set_dark this (hne this)
  | none =>
    rw [hfr] at hg
    simp only at hg
    split at hg
    · cases hg
    · rename_i h40
      have h40 : ts.length < 40 := by omega
      have hth : There (ts ++ [newT]) (ts.length : Int) := ⟨by omega, newT, by rw [Int.toNat_natCast]; simp, rfl⟩
      have hmono : ∀ x, There ts x → There (ts ++ [newT]) x := fun x h => h.mono fun j t ht hf => ⟨t, by rw [List.getElem?_append_left (List.getElem?_eq_some_iff.1 ht).1]; exact ht, hf⟩
      have hdk : ∀ {k : Int}, There ts k → Dark ts k.toNat → Dark (ts ++ [newT]) k.toNat := by
        rintro k ⟨_, t, ht, _⟩ hd u hu
        rw [List.getElem?_append_left (List.getElem?_eq_some_iff.1 ht).1] at hu
        exact hd u hu
      refine ⟨_, _, app_hok hv.1 h40, fun hb => ?_, hth, hg, hmono, .inr ⟨rfl, rfl⟩⟩
      have hm : Mk ts rs := hv.2 hb
      refine ⟨fun k hk => hdk (hv.1.2.2.2 k hk) (hm.1 k hk), fun j x hx h2 k hk => ?_⟩
      by_cases hj : j < ts.length
      · rw [List.getElem?_append_left hj] at hx
        exact hdk ((hv.1.thing hx).2.2.2.2 k hk) (hm.2 j x hx h2 k hk)
      · rw [List.getElem?_append_right (by omega)] at hx
        have := List.mem_of_getElem? hx
        simp only [List.mem_singleton] at this
        subst this
        cases h2
theorem link_all {ts : List Thg} {rs : List Int} {b : Bool} {g : Hp} {x y : Int} (hv : Inv (ts, rs, b)) (hg : linkF (ts, rs, b) x y = some g) : Lv (ts, rs, b) x ∧ Lv (ts, rs, b) y ∧ There ts y ∧ ∃ t us, ts[x.toNat]? = some t ∧ t.2.2 = false ∧ g = (us, rs, b) ∧ HOk (ts.set x.toNat (t.1 ++ [y], t.2), rs, b) ∧ Up (fun j => (j : Int) = y) (ts.set x.toNat (t.1 ++ [y], t.2)) us ∧ (b = true → Dark us y.toNat) := by
  unfold linkF at hg
  by_cases hl : Lv (ts, rs, b) x ∧ Lv (ts, rs, b) y
  · rw [if_pos hl] at hg
    obtain ⟨h0, t, ht, hf⟩ := hl.1.there hv.1
    have hty := hl.2.there hv.1
    simp only [ht] at hg
    split at hg
    · cases hg
    · rename_i h64
      injection hg with hg
      subst hg
      have hok := hv.1.thing ht
      have hk1 : HOk (ts.set x.toNat (t.1 ++ [y], t.2), rs, b) := set_hok hv.1 hf (by show (t.1 ++ [y]).length ≤ 64; simp; omega) ⟨hok.2.1, hok.2.2.1⟩ (fun k hk => set_there (by exact hf) (by
        rcases List.mem_append.1 hk with h | h
        · exact hok.2.2.2.2 k h
        · simp only [List.mem_singleton] at h; subst h; exact hty))
      obtain ⟨u, d⟩ := shade_up b _ y (set_there (i := x.toNat) (x := (t.1 ++ [y], t.2)) hf hty)
      exact ⟨hl.1, hl.2, hty, t, _, ht, hf, rfl, hk1, u, d⟩
  · rw [if_neg hl] at hg; cases hg
theorem link_inv {ts : List Thg} {rs : List Int} {b : Bool} {g : Hp} {x y : Int} (hv : Inv (ts, rs, b)) (hg : linkF (ts, rs, b) x y = some g) : Inv g ∧ ∀ k, There ts k → There g.1 k := by
  obtain ⟨_, _, hty, t, us, ht, hf, rfl, hk1, u, d⟩ := link_all hv hg
  refine ⟨⟨u.hok hk1, fun hb => ?_⟩, fun k hk => u.there (set_there (by exact hf) hk)⟩
  have hm : Mk ts rs := hv.2 hb
  have hlt := (List.getElem?_eq_some_iff.1 ht).1
  have hd : ∀ {k}, Dark ts k → Dark (ts.set x.toNat (t.1 ++ [y], t.2)) k := fun h => set_dark h (fun e => by subst e; exact h t ht)
  refine ⟨fun k hk => u.dark (hd (hm.1 k hk)), fun j z hz h2 k hk => ?_⟩
  obtain ⟨v, hv', e1, _, e3⟩ := u.back hz
  have h2v : v.2.1 = 2 := by
    rcases e3 with e | ⟨_, _, e, _⟩
    · rw [← e]; exact h2
    · rw [e] at h2; cases h2
  rw [e1] at hk
  by_cases hij : x.toNat = j
  · subst hij
    rw [List.getElem?_set_self hlt] at hv'
    injection hv' with hv'
    subst hv'
    rcases List.mem_append.1 hk with h | h
    · exact u.dark (hd (hm.2 _ t ht h2v k h))
    · simp only [List.mem_singleton] at h; subst h; exact d hb
  · rw [List.getElem?_set_ne hij] at hv'
    exact u.dark (hd (hm.2 j v hv' h2v k hk))
theorem cut_all {ts : List Thg} {rs : List Int} {b : Bool} {g : Hp} {x y : Int} (hv : Inv (ts, rs, b)) (hg : cutF (ts, rs, b) x y = some g) : Lv (ts, rs, b) x ∧ ∃ t, ts[x.toNat]? = some t ∧ t.2.2 = false ∧ g = (ts.set x.toNat (t.1.eraseIdx y.toNat, t.2), rs, b) := by
  unfold cutF at hg
  by_cases hl : Lv (ts, rs, b) x
  · rw [if_pos hl] at hg
    obtain ⟨h0, t, ht, hf⟩ := hl.there hv.1
    simp only [ht] at hg
    split at hg
    · injection hg with hg
      exact ⟨hl, t, ht, hf, hg.symm⟩
    · cases hg
  · rw [if_neg hl] at hg; cases hg
theorem cut_inv {ts : List Thg} {rs : List Int} {b : Bool} {g : Hp} {x y : Int} (hv : Inv (ts, rs, b)) (hg : cutF (ts, rs, b) x y = some g) : Inv g ∧ ∀ k, There ts k → There g.1 k := by
  obtain ⟨_, t, ht, hf, rfl⟩ := cut_all hv hg
  have hok := hv.1.thing ht
  have hlt := (List.getElem?_eq_some_iff.1 ht).1
  have hsub : ∀ k ∈ t.1.eraseIdx y.toNat, k ∈ t.1 := fun k hk => List.mem_of_mem_eraseIdx hk
  refine ⟨⟨set_hok hv.1 hf (by have := hok.1; have := List.length_eraseIdx_le t.1 y.toNat; show (t.1.eraseIdx y.toNat).length ≤ 64; omega) ⟨hok.2.1, hok.2.2.1⟩ (fun k hk => set_there (by exact hf) (hok.2.2.2.2 k (hsub k hk))), fun hb => ?_⟩, fun k hk => set_there (by exact hf) hk⟩
  have hm : Mk ts rs := hv.2 hb
  have hd : ∀ {k}, Dark ts k → Dark (ts.set x.toNat (t.1.eraseIdx y.toNat, t.2)) k := fun h => set_dark h (fun e => by subst e; exact h t ht)
  refine ⟨fun k hk => hd (hm.1 k hk), fun j z hz h2 k hk => ?_⟩
  by_cases hij : x.toNat = j
  · subst hij
    replace hz : (ts.set x.toNat (t.1.eraseIdx y.toNat, t.2))[x.toNat]? = some z := hz
    rw [List.getElem?_set_self hlt] at hz
    injection hz with hz
    subst hz
    exact hd (hm.2 _ t ht h2 k (hsub k hk))
  · replace hz : (ts.set x.toNat (t.1.eraseIdx y.toNat, t.2))[j]? = some z := hz
    rw [List.getElem?_set_ne hij] at hz
    exact hd (hm.2 j z hz h2 k hk)
theorem hold_all {h g : Hp} {k : Int} (hg : holdF h k = some g) : Lv h k ∧ rootF h k = some g := by
  unfold holdF at hg
  by_cases hl : Lv h k
  · rw [if_pos hl] at hg; exact ⟨hl, hg⟩
  · rw [if_neg hl] at hg; cases hg
theorem drop_all {h g : Hp} {k : Int} (hg : dropF h k = some g) : g = (h.1, h.2.1.eraseIdx k.toNat, h.2.2) := by
  unfold dropF at hg
  split at hg
  · injection hg with hg; exact hg.symm
  · cases hg
/-- every act keeps what holds, and what is live -/
theorem step_inv {h g : Hp} {a : Ac} (hv : Inv h) (hg : stepF h a = some g) : Inv g ∧ ∀ i, Rch (kidsOf h.1) h.2.1 i → There g.1 (i : Int) := by
  obtain ⟨ts, rs, b⟩ := h
  unfold stepF at hg
  split at hg
  · injection hg with hg
    subst hg
    cases b with
    | false =>
      refine ⟨begin_inv hv.1, fun i hi => ?_⟩
      obtain ⟨us, e, u, _⟩ := begin_up hv.1
      rw [e]
      refine u.there ?_
      exact (hv.1.live hi).mono fun j t ht hf => ⟨(t.1, 0, t.2.2), by rw [List.getElem?_map, ht]; rfl, hf⟩
    | true =>
      cases hgr : greyAt ts with
      | some j =>
        refine ⟨grey_inv hv hgr, fun i hi => ?_⟩
        obtain ⟨t, us, ht, h1, hf, e, hk1, u, d⟩ := grey_step hv hgr
        rw [e]
        exact u.there (set_there (by exact hf) (hv.1.live hi))
      | none =>
        refine ⟨sweep_inv hv hgr, fun i hi => ?_⟩
        rw [sweep_eq hgr]
        exact sweep_there (hv.1.live hi) (by simpa using live_dark hv hgr hi)
  · split at hg
    · obtain ⟨vs, k, h1, h2, h3, h4, h5, _⟩ := fresh_all hv hg
      obtain ⟨r1, r2, r3, r4⟩ := root_inv h1 h2 h3 h4
      exact ⟨r1, fun i hi => r4.there (h5 _ (hv.1.live hi))⟩
    · split at hg
      · have := link_inv hv hg
        exact ⟨this.1, fun i hi => this.2 _ (hv.1.live hi)⟩
      · split at hg
        · have := cut_inv hv hg
          exact ⟨this.1, fun i hi => this.2 _ (hv.1.live hi)⟩
        · split at hg
          · obtain ⟨hl, hr⟩ := hold_all hg
            obtain ⟨r1, r2, r3, r4⟩ := root_inv hv.1 hv.2 (hl.there hv.1) hr
            exact ⟨r1, fun i hi => r4.there (hv.1.live hi)⟩
          · split at hg
            · obtain rfl := drop_all hg
              have hsub : ∀ k ∈ rs.eraseIdx a.2.2.toNat, k ∈ rs := fun k hk => List.mem_of_mem_eraseIdx hk
              exact ⟨⟨⟨hv.1.1, by have h1 : rs.length ≤ 64 := hv.1.2.1; have := List.length_eraseIdx_le rs a.2.2.toNat; show (rs.eraseIdx a.2.2.toNat).length ≤ 64; omega, hv.1.2.2.1, fun k hk => hv.1.2.2.2 k (hsub k hk)⟩, fun hb => ⟨fun k hk => (hv.2 hb).1 k (hsub k hk), (hv.2 hb).2⟩⟩, fun i hi => hv.1.live hi⟩
            · cases hg
/-! what was dead when marking began -/
def Cl (D : Nat → Prop) (h : Hp) : Prop := (∀ i, D i → ∃ t, h.1[i]? = some t ∧ t.2.1 = 0 ∧ t.2.2 = false) ∧ (∀ k ∈ h.2.1, ¬ D k.toNat) ∧ ∀ (i : Nat) (t : Thg), h.1[i]? = some t → ¬ D i → ∀ k ∈ t.1, ¬ D k.toNat
theorem Cl.live {D : Nat → Prop} {h : Hp} (hc : Cl D h) {i : Nat} (hi : Rch (kidsOf h.1) h.2.1 i) : ¬ D i := by
  induction hi with
  | root h => simpa using hc.2.1 _ h
  | step _ h ih =>
    obtain ⟨t, ht, hk⟩ := kids_mem.1 h
    simpa using hc.2.2 _ t ht ih _ hk
theorem Cl.lv {D : Nat → Prop} {h : Hp} (hc : Cl D h) {k : Int} (hk : Lv h k) : ¬ D k.toNat := hc.live hk.2
theorem Cl.set {D : Nat → Prop} {ts : List Thg} {rs : List Int} {b c : Bool} (hc : Cl D (ts, rs, b)) {i : Nat} {x : Thg} (hi : ¬ D i) (hx : ∀ k ∈ x.1, ¬ D k.toNat) : Cl D (ts.set i x, rs, c) := by
  refine ⟨fun j hj => ?_, hc.2.1, fun j t ht hj => ?_⟩
  · have : i ≠ j := fun e => hi (e ▸ hj)
    show ∃ t, (ts.set i x)[j]? = some t ∧ _
    rw [List.getElem?_set_ne this]
    exact hc.1 j hj
  · replace ht : (ts.set i x)[j]? = some t := ht
    by_cases e : i = j
    · subst e
      by_cases hl : i < ts.length
      · rw [List.getElem?_set_self hl] at ht
        injection ht with ht
        subst ht
        exact hx
      · rw [List.getElem?_eq_none (by rw [List.length_set]; omega)] at ht
        cases ht
    · rw [List.getElem?_set_ne e] at ht
      exact hc.2.2 j t ht hj
theorem Cl.up {D S : Nat → Prop} {ts us : List Thg} {rs : List Int} {b c : Bool} (hc : Cl D (ts, rs, b)) (u : Up S ts us) (hs : ∀ i, S i → ¬ D i) : Cl D (us, rs, c) := by
  refine ⟨fun j hj => ?_, hc.2.1, fun j t ht hj => ?_⟩
  · obtain ⟨t, ht, h0, hf⟩ := hc.1 j hj
    obtain ⟨v, hv, _, e2, e3⟩ := u.2 j t ht
    refine ⟨v, hv, ?_, e2.trans hf⟩
    rcases e3 with e | ⟨e, _⟩
    · exact e.trans h0
    · exact absurd hj (hs j e)
  · obtain ⟨v, hv, e1, _⟩ := u.back ht
    rw [e1]
    exact hc.2.2 j v hv hj
theorem Cl.root {D : Nat → Prop} {ts : List Thg} {rs : List Int} {b : Bool} {k : Int} {g : Hp} (hk : HOk (ts, rs, b)) (hm : b = true → Mk ts rs) (ht : There ts k) (hc : Cl D (ts, rs, b)) (hd : ¬ D k.toNat) (hg : rootF (ts, rs, b) k = some g) : Cl D g ∧ g.2.2 = b := by
  obtain ⟨_, r2, r3, r4⟩ := root_inv hk hm ht hg
  obtain ⟨us, rs', c⟩ := g
  simp only at r2 r3 r4
  subst r2 r3
  have h := hc.up (c := c) r4 (fun i hi => by rw [← hi] at hd; simpa using hd)
  refine ⟨⟨h.1, fun x hx => ?_, h.2.2⟩, rfl⟩
  rcases List.mem_append.1 hx with hx | hx
  · exact h.2.1 x hx
  · simp only [List.mem_singleton] at hx
    subst hx
    exact hd
/-- while marking goes on what was dead stays so; when it ends that is free -/
theorem step_clean {D : Nat → Prop} {h g : Hp} {a : Ac} (hv : Inv h) (hb : h.2.2 = true) (hc : Cl D h) (hg : stepF h a = some g) : (g.2.2 = true ∧ Cl D g) ∨ (g.2.2 = false ∧ ∀ i, D i → ∃ t, g.1[i]? = some t ∧ t.2.2 = true) := by
  obtain ⟨ts, rs, b⟩ := h
  simp only at hb
  subst hb
  unfold stepF at hg
  split at hg
  · injection hg with hg
    subst hg
    cases hgr : greyAt ts with
    | some j =>
      obtain ⟨t, us, ht, h1, hf, e, hk1, u, d⟩ := grey_step hv hgr
      rw [e]
      have hj : ¬ D j := fun hj => by
        obtain ⟨x, hx, h0, _⟩ := hc.1 j hj
        replace hx : ts[j]? = some x := hx
        rw [ht] at hx
        injection hx with hx
        subst hx
        rw [h1] at h0
        cases h0
      have hkd := hc.2.2 j t ht hj
      have hcs := hc.set (c := true) (x := (t.1, 2, t.2.2)) hj hkd
      exact .inl ⟨rfl, hcs.up u (fun i hi => by simpa using hkd _ hi)⟩
    | none =>
      rw [sweep_eq hgr]
      refine .inr ⟨rfl, fun i hi => ?_⟩
      obtain ⟨t, ht, h0, _⟩ := hc.1 i hi
      replace ht : ts[i]? = some t := ht
      exact ⟨sweepT t, by show (ts.map sweepT)[i]? = _; rw [List.getElem?_map, ht]; rfl, by unfold sweepT; rw [if_pos h0]⟩
  · split at hg
    · obtain ⟨vs, k, h1, h2, h3, h4, h5, h6⟩ := fresh_all hv hg
      rcases h6 with ⟨i, hfi, rfl, rfl⟩ | ⟨rfl, rfl⟩
      · obtain ⟨t, ht, hft⟩ := free_some hfi
        have hi : ¬ D i := fun hi => by
          obtain ⟨x, hx, _, hxf⟩ := hc.1 i hi
          replace hx : ts[i]? = some x := hx
          rw [ht] at hx
          injection hx with hx
          subst hx
          rw [hft] at hxf
          cases hxf
        have := Cl.root h1 h2 h3 (hc.set (c := true) (x := newT) hi (fun k hk => absurd hk (by simp [newT]))) (by simpa using hi) h4
        exact .inl ⟨this.2, this.1⟩
      · have hi : ¬ D ts.length := fun hi => by
          obtain ⟨x, hx, _⟩ := hc.1 _ hi
          replace hx : ts[ts.length]? = some x := hx
          simp at hx
        have hca : Cl D (ts ++ [newT], rs, true) := by
          refine ⟨fun i hi => ?_, hc.2.1, fun i t ht hi => ?_⟩
          · obtain ⟨t, ht, x⟩ := hc.1 i hi
            replace ht : ts[i]? = some t := ht
            exact ⟨t, by show (ts ++ [newT])[i]? = _; rw [List.getElem?_append_left (List.getElem?_eq_some_iff.1 ht).1]; exact ht, x⟩
          · replace ht : (ts ++ [newT])[i]? = some t := ht
            by_cases hl : i < ts.length
            · rw [List.getElem?_append_left hl] at ht
              exact hc.2.2 i t ht hi
            · rw [List.getElem?_append_right (by omega)] at ht
              have := List.mem_of_getElem? ht
              simp only [List.mem_singleton] at this
              subst this
              exact fun k hk => absurd hk (by simp [newT])
        have := Cl.root h1 h2 h3 hca (by simpa using hi) h4
        exact .inl ⟨this.2, this.1⟩
    · split at hg
      · obtain ⟨hl1, hl2, hty, t, us, ht, hf, rfl, hk1, u, d⟩ := link_all hv hg
        have hx := hc.lv hl1
        have hy := hc.lv hl2
        refine .inl ⟨rfl, (hc.set (c := true) hx (fun k hk => ?_)).up u (fun i hi => by rw [← hi] at hy; simpa using hy)⟩
        rcases List.mem_append.1 hk with h | h
        · exact hc.2.2 _ t ht hx k h
        · simp only [List.mem_singleton] at h; subst h; exact hy
      · split at hg
        · obtain ⟨hl, t, ht, hf, rfl⟩ := cut_all hv hg
          exact .inl ⟨rfl, hc.set (hc.lv hl) (fun k hk => hc.2.2 _ t ht (hc.lv hl) k (List.mem_of_mem_eraseIdx hk))⟩
        · split at hg
          · obtain ⟨hl, hr⟩ := hold_all hg
            have := Cl.root hv.1 hv.2 (hl.there hv.1) hc (hc.lv hl) hr
            exact .inl ⟨this.2, this.1⟩
          · split at hg
            · obtain rfl := drop_all hg
              exact .inl ⟨rfl, hc.1, fun k hk => hc.2.1 k (List.mem_of_mem_eraseIdx hk), hc.2.2⟩
            · cases hg
/-- what is dead -/
def Dd (h : Hp) (i : Nat) : Prop := ∃ t, h.1[i]? = some t ∧ t.2.2 = false ∧ ¬ Rch (kidsOf h.1) h.2.1 i
theorem begin_clean {ts : List Thg} {rs : List Int} (hk : HOk (ts, rs, false)) : Cl (Dd (ts, rs, false)) (markF (ts, rs, false)) := by
  obtain ⟨us, e, u, d⟩ := begin_up hk
  rw [e]
  have hw : Cl (Dd (ts, rs, false)) (ts.map (fun t => (t.1, 0, t.2.2)), rs, false) := by
    refine ⟨fun i ⟨t, ht, hf, _⟩ => ⟨(t.1, 0, t.2.2), by show (List.map _ ts)[i]? = _; rw [List.getElem?_map]; rw [show ts[i]? = some t from ht]; rfl, rfl, hf⟩, fun k hk' ⟨t, ht, hf, hn⟩ => hn (.root ?_), fun i t ht hi k hkt => ?_⟩
    · have := (hk.2.2.2 k hk').1
      rw [Int.toNat_of_nonneg this]; exact hk'
    · replace ht : (ts.map (fun t => (t.1, (0 : Int), t.2.2)))[i]? = some t := ht
      rw [List.getElem?_map] at ht
      cases hy : ts[i]? with
      | none => rw [hy] at ht; cases ht
      | some y =>
        rw [hy] at ht
        injection ht with ht
        subst ht
        rintro ⟨z, hz, hzf, hzn⟩
        have hok := hk.thing hy
        have hi' : Rch (kidsOf ts) rs i := by
          apply Classical.byContradiction
          intro hn
          refine hi ⟨y, hy, ?_, hn⟩
          cases hf : y.2.2 with
          | false => rfl
          | true => rw [show (y.1, (0 : Int), y.2.2).1 = y.1 from rfl, (hok.2.2.2.1 hf).1] at hkt; cases hkt
        refine hzn (.step hi' (kids_mem.2 ⟨y, hy, ?_⟩))
        have := (hok.2.2.2.2 k hkt).1
        rw [Int.toNat_of_nonneg this]
        exact hkt
  refine hw.up u (fun i hi hD => ?_)
  have := hw.2.1 _ hi
  exact this (by simpa using hD)
/-! marking ends -/
def mu (ts : List Thg) : Nat := falses (ts.map fun t => t.2.1 == 2)
theorem Up.mu {S : Nat → Prop} {ts us : List Thg} (h : Up S ts us) : mu us = mu ts := by
  have : us.map (fun t => t.2.1 == 2) = ts.map (fun t => t.2.1 == 2) := by
    apply List.ext_getElem?
    intro i
    rw [List.getElem?_map, List.getElem?_map]
    cases ht : ts[i]? with
    | some t =>
      obtain ⟨u, hu, _, _, h3⟩ := h.2 i t ht
      rw [hu]
      show some (u.2.1 == 2) = some (t.2.1 == 2)
      rcases h3 with h | ⟨_, h0, h1, _⟩
      · rw [h]
      · rw [h0, h1]; rfl
    | none =>
      have : us[i]? = none := by
        rw [List.getElem?_eq_none_iff] at ht ⊢
        rw [h.1]; exact ht
      rw [this]
  unfold Plain.mu
  rw [this]
theorem mu_le (ts : List Thg) : mu ts ≤ ts.length := by
  unfold mu falses
  refine Nat.le_trans List.countP_le_length ?_
  simp
theorem mu_set {ts : List Thg} {i : Nat} {t : Thg} (ht : ts[i]? = some t) (h1 : t.2.1 = 1) (f : Bool) : mu (ts.set i (t.1, 2, f)) + 1 = mu ts := by
  obtain ⟨hlt, e⟩ := List.getElem?_eq_some_iff.1 ht
  unfold mu
  rw [List.map_set]
  exact falses_set _ _ (by simpa using hlt) (by rw [List.getD_eq_getElem?_getD, List.getElem?_map, ht]; simp [h1])
/-- nothing but colours has changed -/
def Ks (h g : Hp) : Prop := g.2.1 = h.2.1 ∧ g.1.length = h.1.length ∧ ∀ (i : Nat) (t : Thg), h.1[i]? = some t → ∃ u, g.1[i]? = some u ∧ u.1 = t.1 ∧ u.2.2 = t.2.2
theorem Ks.trans {a b c : Hp} (h : Ks a b) (k : Ks b c) : Ks a c := by
  refine ⟨k.1.trans h.1, k.2.1.trans h.2.1, fun i t ht => ?_⟩
  obtain ⟨u, hu, e1, e2⟩ := h.2.2 i t ht
  obtain ⟨v, hv, f1, f2⟩ := k.2.2 i u hu
  exact ⟨v, hv, f1.trans e1, f2.trans e2⟩
theorem Up.ks {S : Nat → Prop} {ts us : List Thg} {rs : List Int} {b c : Bool} (h : Up S ts us) : Ks (ts, rs, b) (us, rs, c) := ⟨rfl, h.1, fun i t ht => by
  obtain ⟨u, hu, e1, e2, _⟩ := h.2 i t ht
  exact ⟨u, hu, e1, e2⟩⟩
theorem begin_ks {ts : List Thg} {rs : List Int} (hk : HOk (ts, rs, false)) : Ks (ts, rs, false) (markF (ts, rs, false)) := by
  obtain ⟨us, e, u, d⟩ := begin_up hk
  rw [e]
  exact Ks.trans (b := (ts.map (fun t => (t.1, 0, t.2.2)), rs, false)) ⟨rfl, by simp, fun i t ht => ⟨(t.1, 0, t.2.2), by show (List.map _ ts)[i]? = _; rw [List.getElem?_map]; rw [show ts[i]? = some t from ht]; rfl, rfl, rfl⟩⟩ u.ks
/-- a step of marking while it goes on -/
theorem mark_busy {h : Hp} (hv : Inv h) (hb : h.2.2 = true) : ((markF h).2.2 = true ∧ mu (markF h).1 + 1 = mu h.1 ∧ Ks h (markF h)) ∨ ((markF h).2.2 = false ∧ (markF h).1.length = h.1.length ∧ greyAt h.1 = none) := by
  obtain ⟨ts, rs, b⟩ := h
  simp only at hb
  subst hb
  cases hgr : greyAt ts with
  | some j =>
    obtain ⟨t, us, ht, h1, hf, e, hk1, u, d⟩ := grey_step hv hgr
    rw [e]
    refine .inl ⟨rfl, ?_, ?_⟩
    · show mu us + 1 = mu ts
      rw [u.mu]
      exact mu_set ht h1 _
    · refine Ks.trans (b := (ts.set j (t.1, 2, t.2.2), rs, true)) ⟨rfl, by simp, fun i x hx => ?_⟩ u.ks
      replace hx : ts[i]? = some x := hx
      by_cases hij : j = i
      · subst hij
        rw [ht] at hx
        injection hx with hx
        subst hx
        exact ⟨_, List.getElem?_set_self (List.getElem?_eq_some_iff.1 ht).1, rfl, rfl⟩
      · exact ⟨x, by show (ts.set j _)[i]? = _; rw [List.getElem?_set_ne hij]; exact hx, rfl, rfl⟩
  | none =>
    rw [sweep_eq hgr]
    exact .inr ⟨rfl, by simp, rfl⟩
/-- what is left: just what is live -/
def Fin (h : Hp) : Prop := Inv h ∧ ∀ (i : Nat) (t : Thg), h.1[i]? = some t → (t.2.2 = false ↔ Rch (kidsOf h.1) h.2.1 i)
theorem Ks.rch {h g : Hp} (k : Ks h g) {i : Nat} (hi : Rch (kidsOf h.1) h.2.1 i) : Rch (kidsOf g.1) g.2.1 i := by
  induction hi with
  | root h => exact .root (k.1 ▸ h)
  | step _ hm ih =>
    obtain ⟨t, ht, hk⟩ := kids_mem.1 hm
    obtain ⟨u, hu, e1, _⟩ := k.2.2 _ t ht
    exact .step ih (kids_mem.2 ⟨u, hu, e1 ▸ hk⟩)
/-- the end of a marking that began at h0 -/
theorem ends_fin {h0 h : Hp} (hv : Inv h) (hb : h.2.2 = true) (hc : Cl (Dd h0) h) (hk : Ks h0 h) (hg : greyAt h.1 = none) : Fin (markF h) := by
  have hs := step_inv (a := (1, 0, 0)) hv (g := markF h) (by unfold stepF; rw [if_pos rfl])
  refine ⟨hs.1, fun i x hx => ?_⟩
  obtain ⟨ts, rs, b⟩ := h
  simp only at hb hg
  subst hb
  have he := sweep_eq (rs := rs) hg
  rw [he] at hx hs ⊢
  replace hx : (ts.map sweepT)[i]? = some x := hx
  constructor
  · intro hf
    rw [List.getElem?_map] at hx
    cases ht : ts[i]? with
    | none => rw [ht] at hx; cases hx
    | some t =>
      rw [ht] at hx
      injection hx with hx
      have hn0 : t.2.1 ≠ 0 := by
        intro hz
        unfold sweepT at hx
        rw [if_pos hz] at hx
        subst hx
        cases hf
      have hlt0 : i < h0.1.length := by
        have := (List.getElem?_eq_some_iff.1 ht).1
        have h2 : ts.length = h0.1.length := hk.2.1
        omega
      have h0t := List.getElem?_eq_getElem hlt0
      obtain ⟨u, hu, e1, e2⟩ := hk.2.2 i _ h0t
      replace hu : ts[i]? = some u := hu
      rw [ht] at hu
      injection hu with hu
      subst hu
      have htf : t.2.2 = false := by
        cases htf : t.2.2 with
        | false => rfl
        | true => exact absurd ((hv.1.thing (h := (ts, rs, true)) ht).2.2.2.1 htf).2 hn0
      have hlive : Rch (kidsOf h0.1) h0.2.1 i := by
        apply Classical.byContradiction
        intro hn
        obtain ⟨y, hy, hy0, _⟩ := hc.1 i ⟨_, h0t, by rw [← e2]; exact htf, hn⟩
        replace hy : ts[i]? = some y := hy
        rw [ht] at hy
        injection hy with hy
        subst hy
        exact hn0 hy0
      have hl2 := hk.rch hlive
      -- what is live in ts is live behind the sweep
      clear hlive h0t e1 e2 htf hx
      have key : ∀ j, Rch (kidsOf ts) rs j → Rch (kidsOf (ts.map sweepT)) rs j := by
        intro j hj
        induction hj with
        | root h => exact .root h
        | @step p q hp hq ih =>
          obtain ⟨t', ht', hk'⟩ := kids_mem.1 hq
          refine .step ih (kids_mem.2 ⟨sweepT t', by rw [List.getElem?_map, ht']; rfl, ?_⟩)
          have := live_dark hv hg hp t' ht'
          unfold sweepT
          rw [if_neg this]
          exact hk'
      exact key i hl2
  · intro hl
    obtain ⟨_, y, hy, hf⟩ := hs.1.1.live hl
    replace hy : (ts.map sweepT)[i]? = some y := by simpa using hy
    rw [hx] at hy
    injection hy with hy
    subst hy
    exact hf
end Plain
end Go.Proofs.Ytgoocmocdimnoaa
