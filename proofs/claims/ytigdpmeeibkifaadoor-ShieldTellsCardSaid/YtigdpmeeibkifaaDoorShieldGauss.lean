/- Plain law of shards: elimination. A matrix is a function of row and column. -/
import Derived.Test.YtigdpmeeibkifaaDoorShieldPlain
namespace Go.Proofs.YtigdpmeeibkifaaDoor.Plain
abbrev Mtx := Nat → Nat → Nat
def dotN (n : Nat) (a x : Nat → Nat) : Nat := xsum n fun k => fmul (a k) (x k)
def Byt (f : Nat → Nat) : Prop := ∀ k, f k < 256
theorem dot_lt {n : Nat} {a x : Nat → Nat} (ha : Byt a) : dotN n a x < 256 := xsum_lt fun k _ => fmul_lt _ _ (ha k)
/-- only the zero vector goes to zero -/
def NS (n : Nat) (M : Mtx) : Prop := ∀ x, Byt x → (∀ r, r < n → dotN n (M r) x = 0) → ∀ k, k < n → x k = 0
/-- M x = N (M0 x) -/
def TiedM (n : Nat) (M0 M N : Mtx) : Prop := ∀ x, Byt x → ∀ r, r < n → dotN n (M r) x = dotN n (N r) fun s => dotN n (M0 s) x
def Cols (c n : Nat) (M : Mtx) : Prop := ∀ r, r < n → ∀ k, k < c → M r k = if r = k then 1 else 0
def BytM (M : Mtx) : Prop := ∀ r, Byt (M r)
def idM : Mtx := fun r k => if r = k then 1 else 0
theorem dot_one {n r : Nat} (hr : r < n) (x : Nat → Nat) (hx : Byt x) (a : Nat → Nat) (h1 : a r = 1) (h0 : ∀ k, k < n → k ≠ r → a k = 0) : dotN n a x = x r := by
  unfold dotN
  rw [xsum_one _ hr fun k hk hn => by rw [h0 k hk hn]; exact fmul_zero_left _, h1, one_fmul _ (hx r)]
theorem tied_start (n : Nat) (M0 : Mtx) (h : BytM M0) : TiedM n M0 M0 idM := by
  intro x hx r hr
  rw [dot_one hr (fun s => dotN n (M0 s) x) (fun s => dot_lt (h s)) (idM r) (by simp [idM]) (fun k _ hn => by simp [idM]; omega)]
def swapM (M : Mtx) (c p : Nat) : Mtx := fun r => if r = c then M p else if r = p then M c else M r
def scaleM (M : Mtx) (c f : Nat) : Mtx := fun r k => if r = c then fmul f (M c k) else M r k
def elimM (M : Mtx) (r f : Nat) (u : Nat → Nat) : Mtx := fun r' k => if r' = r then M r k ^^^ fmul f (u k) else M r' k
theorem byt_swap {M : Mtx} (h : BytM M) (c p : Nat) : BytM (swapM M c p) := by
  intro r
  unfold swapM
  split
  · exact h p
  · split
    · exact h c
    · exact h r
theorem byt_scale {M : Mtx} (h : BytM M) {c f : Nat} (hf : f < 256) : BytM (scaleM M c f) := by
  intro r k
  unfold scaleM
  split
  · exact fmul_lt _ _ hf
  · exact h r k
theorem byt_elim {M : Mtx} (h : BytM M) {r f : Nat} {u : Nat → Nat} (hf : f < 256) : BytM (elimM M r f u) := by
  intro r' k
  unfold elimM
  split
  · exact xor_lt (h r k) (fmul_lt _ _ hf)
  · exact h r' k
theorem dot_scale (n f : Nat) (a x : Nat → Nat) (hf : f < 256) (ha : Byt a) (hx : Byt x) : dotN n (fun k => fmul f (a k)) x = fmul f (dotN n a x) := by
  unfold dotN
  rw [fmul_xsum]
  exact xsum_congr fun k _ => fmul_assoc _ _ _ hf (ha k) (hx k)
theorem dot_elim (n f : Nat) (a u x : Nat → Nat) (hf : f < 256) (hu : Byt u) (hx : Byt x) : dotN n (fun k => a k ^^^ fmul f (u k)) x = dotN n a x ^^^ fmul f (dotN n u x) := by
  rw [← dot_scale n f u x hf hu hx]
  unfold dotN
  rw [← xsum_xor]
  exact xsum_congr fun k _ => fmul_xor_left _ _ _
theorem tied_swap {n : Nat} {M0 M N : Mtx} (h : TiedM n M0 M N) {c p : Nat} (hc : c < n) (hp : p < n) : TiedM n M0 (swapM M c p) (swapM N c p) := by
  intro x hx r hr
  unfold swapM
  by_cases e : r = c
  · rw [if_pos e, if_pos e]; exact h x hx p hp
  · rw [if_neg e, if_neg e]
    by_cases e2 : r = p
    · rw [if_pos e2, if_pos e2]; exact h x hx c hc
    · rw [if_neg e2, if_neg e2]; exact h x hx r hr
theorem ns_swap {n : Nat} {M : Mtx} (h : NS n M) {c p : Nat} (hc : c < n) (hp : p < n) : NS n (swapM M c p) := by
  intro x hx hz
  refine h x hx fun r hr => ?_
  by_cases e : r = p
  · have := hz c hc
    unfold swapM at this
    rw [if_pos rfl] at this
    rw [e]; exact this
  · by_cases e2 : r = c
    · have := hz p hp
      unfold swapM at this
      by_cases e3 : p = c
      · omega
      · rw [if_neg e3, if_pos rfl] at this
        rw [e2]; exact this
    · have := hz r hr
      unfold swapM at this
      rw [if_neg e2, if_neg e] at this
      exact this
theorem tied_scale {n : Nat} {M0 M N : Mtx} (h : TiedM n M0 M N) (hM0 : BytM M0) (hM : BytM M) (hN : BytM N) {c f : Nat} (hf : f < 256) : TiedM n M0 (scaleM M c f) (scaleM N c f) := by
  intro x hx r hr
  unfold scaleM
  by_cases e : r = c
  · subst e
    simp only [if_true]
    rw [dot_scale n f _ _ hf (hM r) hx, dot_scale n f _ _ hf (hN r) (fun s => dot_lt (hM0 s)), h x hx r hr]
  · simp only [if_neg e]
    exact h x hx r hr
theorem ns_scale {n : Nat} {M : Mtx} (h : NS n M) (hM : BytM M) {c f : Nat} (hf : f < 256) (f0 : f ≠ 0) : NS n (scaleM M c f) := by
  intro x hx hz
  refine h x hx fun r hr => ?_
  have := hz r hr
  unfold scaleM at this
  by_cases e : r = c
  · subst e
    simp only [if_true] at this
    rw [dot_scale n f _ _ hf (hM r) hx] at this
    rcases fmul_eq_zero _ _ hf (dot_lt (hM r)) this with e | e
    · exact absurd e f0
    · exact e
  · simp only [if_neg e] at this
    exact this
theorem tied_elim {n : Nat} {M0 M N : Mtx} (h : TiedM n M0 M N) (hM0 : BytM M0) (hM : BytM M) (hN : BytM N) {r c f : Nat} (hc : c < n) (hf : f < 256) : TiedM n M0 (elimM M r f (M c)) (elimM N r f (N c)) := by
  intro x hx r' hr
  unfold elimM
  by_cases e : r' = r
  · subst e
    simp only [if_true]
    rw [dot_elim n f _ _ _ hf (hM c) hx, dot_elim n f _ _ _ hf (hN c) (fun s => dot_lt (hM0 s)), h x hx r' hr, h x hx c hc]
  · simp only [if_neg e]
    exact h x hx r' hr
theorem ns_elim {n : Nat} {M : Mtx} (h : NS n M) (hM : BytM M) {r c f : Nat} (hc : c < n) (hrc : r ≠ c) (hf : f < 256) : NS n (elimM M r f (M c)) := by
  intro x hx hz
  have hzc : dotN n (M c) x = 0 := by
    have := hz c hc
    unfold elimM at this
    simp only [if_neg (Ne.symm hrc)] at this
    exact this
  refine h x hx fun r' hr => ?_
  have := hz r' hr
  unfold elimM at this
  by_cases e : r' = r
  · subst e
    simp only [if_true] at this
    rw [dot_elim n f _ _ _ hf (hM c) hx, hzc, fmul_zero_right, Nat.xor_zero] at this
    exact this
  · simp only [if_neg e] at this
    exact this
/-- a pivot is found -/
theorem pivot {n c : Nat} {M : Mtx} (h : NS n M) (hM : BytM M) (hC : Cols c n M) (hc : c < n) : ∃ p, c ≤ p ∧ p < n ∧ M p c ≠ 0 := by
  rcases Classical.em (∃ p, c ≤ p ∧ p < n ∧ M p c ≠ 0) with hh | hh
  · exact hh
  · exfalso
    have hz : ∀ p, c ≤ p → p < n → M p c = 0 := fun p h1 h2 => Classical.byContradiction fun h3 => hh ⟨p, h1, h2, h3⟩
    obtain ⟨x, hxd⟩ : ∃ x : Nat → Nat, x = fun k => if k = c then 1 else if k < c then M k c else 0 := ⟨_, rfl⟩
    have hx : Byt x := by
      intro k
      rw [hxd]
      show (if k = c then 1 else if k < c then M k c else 0) < 256
      split
      · decide
      · split
        · exact hM k c
        · decide
    have hxc : x c = 1 := by rw [hxd]; simp
    have := h x hx (fun r hr => by
      have key : dotN n (M r) x = xsum n (fun k => (if k = c then M r c else 0) ^^^ (if k = r ∧ r < c then M r c else 0)) := by
        refine xsum_congr fun k hk => ?_
        rw [hxd]
        show fmul (M r k) (if k = c then 1 else if k < c then M k c else 0) = _
        by_cases e : k = c
        · have hne : ¬ (k = r ∧ r < c) := by omega
          rw [if_pos e, if_pos e, if_neg hne, fmul_one, Nat.xor_zero, e]
        · by_cases e2 : k < c
          · rw [if_neg e, if_pos e2, if_neg e, hC r hr k e2, Nat.zero_xor]
            by_cases e3 : r = k
            · have hp : k = r ∧ r < c := by omega
              rw [if_pos e3, if_pos hp, one_fmul _ (hM k c), e3]
            · have hp : ¬ (k = r ∧ r < c) := by omega
              rw [if_neg e3, if_neg hp, fmul_zero_left]
          · have hne : ¬ (k = r ∧ r < c) := by omega
            rw [if_neg e, if_neg e2, if_neg e, if_neg hne, fmul_zero_right]
            rfl
      rw [key, xsum_xor, xsum_one (j := c) _ hc (fun k _ hn => by rw [if_neg hn]), if_pos rfl]
      by_cases hrc : r < c
      · rw [xsum_one (j := r) _ hr (fun k _ hn => by rw [if_neg (by omega)]), if_pos ⟨rfl, hrc⟩, Nat.xor_self]
      · rw [xsum_zero (fun k _ => by rw [if_neg (by omega)]), hz r (by omega) hr]
        rfl) c hc
    omega
theorem cols_swap {n c p : Nat} {M : Mtx} (hC : Cols c n M) (hcp : c ≤ p) (hp : p < n) : Cols c n (swapM M c p) := by
  intro r hr k hk
  unfold swapM
  by_cases e : r = c
  · rw [if_pos e, hC p hp k hk, if_neg (by omega), if_neg (by omega)]
  · by_cases e2 : r = p
    · rw [if_neg e, if_pos e2, hC c (by omega) k hk, if_neg (by omega), if_neg (by omega)]
    · rw [if_neg e, if_neg e2, hC r hr k hk]
theorem cols_scale {n c f : Nat} {M : Mtx} (hC : Cols c n M) (hc : c < n) : Cols c n (scaleM M c f) := by
  intro r hr k hk
  unfold scaleM
  by_cases e : r = c
  · rw [if_pos e, hC c hc k hk, if_neg (by omega), if_neg (by omega), fmul_zero_right]
  · rw [if_neg e, hC r hr k hk]
/-- column c is done in the rows below e -/
def Part (c e n : Nat) (M : Mtx) : Prop := Cols c n M ∧ M c c = 1 ∧ ∀ r, r < e → r < n → r ≠ c → M r c = 0
theorem part_elim {c e n : Nat} {M : Mtx} (h : Part c e n M) (he : e < n) (hc : c < n) (hne : e ≠ c) : Part c (e + 1) n (elimM M e (M e c) (M c)) := by
  obtain ⟨hC, h1, hz⟩ := h
  refine ⟨?_, ?_, ?_⟩
  · intro r hr k hk
    unfold elimM
    by_cases q : r = e
    · rw [if_pos q, hC c hc k hk, if_neg (by omega : ¬ c = k), fmul_zero_right, Nat.xor_zero, hC e he k hk, q]
    · rw [if_neg q, hC r hr k hk]
  · unfold elimM
    rw [if_neg (Ne.symm hne)]
    exact h1
  · intro r hr hrn hrc
    unfold elimM
    by_cases q : r = e
    · rw [if_pos q, h1, fmul_one, Nat.xor_self]
    · rw [if_neg q]
      exact hz r (by omega) hrn hrc
theorem part_skip {c e n : Nat} {M : Mtx} (h : Part c e n M) (hs : e = c ∨ M e c = 0) : Part c (e + 1) n M := by
  obtain ⟨hC, h1, hz⟩ := h
  refine ⟨hC, h1, fun r hr hrn hrc => ?_⟩
  by_cases q : r = e
  · rcases hs with hs | hs
    · omega
    · rw [q]; exact hs
  · exact hz r (by omega) hrn hrc
theorem part_end {c n : Nat} {M : Mtx} (h : Part c n n M) : Cols (c + 1) n M := by
  obtain ⟨hC, h1, hz⟩ := h
  intro r hr k hk
  by_cases e : k = c
  · subst e
    by_cases q : r = k
    · rw [if_pos q, q]; exact h1
    · rw [if_neg q]; exact hz r hr hr q
  · exact hC r hr k (by omega)
theorem part_start {c n : Nat} {M : Mtx} (hC : Cols c n M) (hM : BytM M) (hc : c < n) (h0 : M c c ≠ 0) : Part c 0 n (scaleM M c (finv (M c c))) := by
  refine ⟨cols_scale hC hc, ?_, fun r hr => by omega⟩
  unfold scaleM
  rw [if_pos rfl, fmul_comm _ _ (finv_lt _) (hM c c), fmul_finv (hM c c) h0]
/-- the end: N undoes M0 -/
theorem tied_end {n : Nat} {M0 M N : Mtx} (h : TiedM n M0 M N) (hC : Cols n n M) (x : Nat → Nat) (hx : Byt x) (r : Nat) (hr : r < n) : dotN n (N r) (fun s => dotN n (M0 s) x) = x r := by
  rw [← h x hx r hr]
  exact dot_one hr x hx (M r) (by rw [hC r hr r hr, if_pos rfl]) (fun k hk hn => by rw [hC r hr k hk, if_neg (by omega)])
/-- the factors of a shard -/
def rowF (n s : Nat) : Nat → Nat := fun k => if s < n then (if k = s then 1 else 0) else finv ((128 + s - n) ^^^ k)
theorem rowF_byt (n s : Nat) : Byt (rowF n s) := by
  intro k
  unfold rowF
  split
  · split <;> decide
  · exact finv_lt _
theorem lsum_map_range (n : Nat) (f : Nat → Nat) : xsum n f = lsum (List.range n) f := by
  induction n with
  | zero => rfl
  | succ n ih =>
    rw [xsum, ih, List.range_succ]
    unfold lsum
    rw [List.foldr_append]
    generalize List.range n = l
    show List.foldr _ 0 l ^^^ f n = List.foldr _ (f n ^^^ 0) l
    rw [Nat.xor_zero]
    induction l with
    | nil => simp
    | cons a l ih2 => simp only [List.foldr_cons]; rw [← ih2]; ac_rfl
theorem lsum_filter (l : List Nat) (p : Nat → Bool) (f : Nat → Nat) (h : ∀ k ∈ l, p k = false → f k = 0) : lsum l f = lsum (l.filter p) f := by
  induction l with
  | nil => rfl
  | cons a l ih =>
    rw [lsum_cons, ih fun k hk => h k (by simp [hk])]
    by_cases e : p a = true
    · rw [List.filter_cons_of_pos e, lsum_cons]
    · rw [List.filter_cons_of_neg e, h a (by simp) (by simpa using e), Nat.zero_xor]
theorem filter_split (l : List Nat) (p : Nat → Bool) : (l.filter p).length + (l.filter fun k => !p k).length = l.length := by
  induction l with
  | nil => rfl
  | cons a l ih =>
    by_cases e : p a = true
    · simp [e]
      omega
    · have e' : p a = false := by simpa using e
      simp [e']
      omega
theorem nodup_len_le : ∀ {l m : List Nat}, l.Nodup → (∀ k ∈ l, k ∈ m) → l.length ≤ m.length
  | [], _, _, _ => Nat.zero_le _
  | a :: l, m, hn, hs => by
    have h1 := List.nodup_cons.1 hn
    have ha : a ∈ m := hs a (by simp)
    have := nodup_len_le (l := l) (m := m.erase a) h1.2 fun k hk => (List.mem_erase_of_ne (by rintro rfl; exact h1.1 hk)).2 (hs k (by simp [hk]))
    rw [List.length_erase_of_mem ha] at this
    have hp : 0 < m.length := List.length_pos_of_mem ha
    simp only [List.length_cons]
    omega
/-- ANY n SHARDS: their rows are independent -/
theorem rows_ns {n : Nat} (hn : n ≤ 16) (P : List Nat) (hP : P.Nodup) (hlen : n ≤ P.length) (hb : ∀ s ∈ P, s < n + 8) (x : Nat → Nat) (hx : Byt x)
    (hz : ∀ s ∈ P, dotN n (rowF n s) x = 0) : ∀ k, k < n → x k = 0 := by
  -- the parts that are there
  have hpart : ∀ s ∈ P, s < n → x s = 0 := by
    intro s hs hsn
    have := hz s hs
    rw [dot_one hsn x hx (rowF n s) (by simp [rowF, hsn]) (fun k _ hne => by simp [rowF, hsn, hne])] at this
    exact this
  -- the columns that are not there, and the guards
  obtain ⟨U, hU⟩ : ∃ U, U = (List.range n).filter fun k => !(P.contains k) := ⟨_, rfl⟩
  obtain ⟨G, hG⟩ : ∃ G, G = P.filter fun s => !(decide (s < n)) := ⟨_, rfl⟩
  have hcount : U.length ≤ G.length := by
    have h1 := filter_split P fun s => decide (s < n)
    have h2 := filter_split (List.range n) fun k => P.contains k
    rw [List.length_range] at h2
    have h3 : (P.filter fun s => decide (s < n)).length ≤ ((List.range n).filter fun k => P.contains k).length := by
      refine nodup_len_le (hP.filter _) fun k hk => ?_
      simp only [List.mem_filter, decide_eq_true_eq] at hk
      simp only [List.mem_filter, List.mem_range, List.contains_iff_mem]
      exact ⟨hk.2, hk.1⟩
    rw [hU, hG]
    omega
  have hg := cauchy U (G.map fun s => 128 + s - n) x (hU ▸ List.nodup_range.filter _) ?_ (by rw [List.length_map]; exact hcount) ?_ ?_ ?_ (fun k _ => hx k) ?_
  · intro k hk
    by_cases e : k ∈ P
    · exact hpart k e hk
    · exact hg k (by rw [hU]; simp [hk, e])
  · -- distinct
    rw [hG]
    have hgn := hP.filter fun s => !(decide (s < n))
    have hgb : ∀ s ∈ P.filter fun s => !(decide (s < n)), n ≤ s := fun s hs => by
      simp only [List.mem_filter, Bool.not_eq_true', decide_eq_false_iff_not] at hs
      omega
    generalize (P.filter fun s => !(decide (s < n))) = L at hgn hgb
    induction L with
    | nil => exact List.nodup_nil
    | cons a L ih =>
      rw [List.map_cons, List.nodup_cons]
      have h1 := List.nodup_cons.1 hgn
      refine ⟨fun hm => ?_, ih h1.2 fun s hs => hgb s (by simp [hs])⟩
      obtain ⟨b, hbm, hbe⟩ := List.mem_map.1 hm
      have e1 := hgb a (by simp)
      have e2 := hgb b (by simp [hbm])
      have : a = b := by omega
      exact h1.1 (this ▸ hbm)
  · intro k hk
    rw [hU] at hk
    simp only [List.mem_filter, List.mem_range] at hk
    omega
  · intro j hj
    obtain ⟨s, hs, rfl⟩ := List.mem_map.1 hj
    rw [hG] at hs
    have := hb s (List.mem_filter.1 hs).1
    omega
  · intro k hk j hj
    obtain ⟨s, hs, rfl⟩ := List.mem_map.1 hj
    rw [hU] at hk
    rw [hG] at hs
    simp only [List.mem_filter, List.mem_range] at hk
    simp only [List.mem_filter, Bool.not_eq_true', decide_eq_false_iff_not] at hs
    omega
  · intro j hj
    obtain ⟨s, hs, rfl⟩ := List.mem_map.1 hj
    rw [hG] at hs
    simp only [List.mem_filter, Bool.not_eq_true', decide_eq_false_iff_not] at hs
    have h1 := hz s hs.1
    unfold dotN at h1
    rw [lsum_map_range, lsum_filter _ (fun k => !(P.contains k)) _ (fun k hk hp => by
      simp only [Bool.not_eq_false', List.contains_iff_mem] at hp
      rw [hpart k hp (List.mem_range.1 hk), fmul_zero_right]), ← hU] at h1
    rw [← h1]
    refine lsum_congr fun k hk => ?_
    rw [fmul_comm _ _ (hx k) (finv_lt _)]
    unfold rowF
    rw [if_neg hs.2]
end Go.Proofs.YtigdpmeeibkifaaDoor.Plain
