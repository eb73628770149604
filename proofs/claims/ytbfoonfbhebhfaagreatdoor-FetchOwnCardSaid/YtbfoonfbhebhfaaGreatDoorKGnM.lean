/- Joined: Det, Det2, Det3. -/
import Derived.Deep.RegionHeld3
import Derived.WalkKit
import Derived.Test.YtbfoonfbhebhfaaGreatDoorKGnJ
import Derived.Test.YtbfoonfbhebhfaaGreatDoorKGnK
import Derived.Deep.MidRow
namespace Go.Proofs.YtbfoonfbhebhfaaGreatDoor
open Go.RowKit
section
variable {P : Program} {ops : Array Oper} {Q : Exit → Act → World → Prop} {md : Region.Mode}
theorem wp_agree {o : Oper} {a b : Act} {w : World} {K K2 : Act → World → Prop} (hs : ∀ cs b, o.op ≠ .select cs b) (he : ∀ x ∈ o.op.operands, a.eval x = b.eval x)
  (hQ : ∀ c w, Q (.panic c) b w → Q (.panic c) a w) (hK : ∀ v w', K2 (b.put o.dst v) w' → K (a.put o.dst v) w') (hD : ∀ d w', ¬ K2 (({ b with defers := d :: b.defers } : Act).put o.dst undef) w')
  (h : o.wp P b w K2 Q) : o.wp P a w K Q := by
 unfold Oper.wp at *
 rw [execOp_congr o hs he]
 generalize (execOp b.eval o).run P w = r at *
 cases r with
 | ok n w' =>
  cases n <;> simp only [Oper.upon] at h ⊢
  case value u => exact hK _ _ h
  case skip => exact hK _ _ h
  case defer d => exact (hD d _ h).elim
  case enter f args =>
   refine Calls.mono h fun e w'' he => ?_
   cases e with
   | returned u => exact hK _ _ he
   | panicked c => exact hQ _ _ he
   | outgrown => exact he
  case row row args => exact Rows.mono h fun u w'' he => hK _ _ he
 | halt x w' =>
  cases x <;> simp only [Oper.upon] at h ⊢
  case panic u => exact hQ _ _ h
theorem count_less (p q : Nat → Bool) (i : Nat) (hp : p i = true) (hq : q i = false) (h : ∀ j, j ≠ i → q j = p j) : ∀ n, i < n → (List.range n).countP q + 1 = (List.range n).countP p
 | 0, hi => absurd hi (Nat.not_lt_zero _)
 | n + 1, hi => by
  rw [List.range_succ, List.countP_append, List.countP_append]
  by_cases e : i = n
  ·
   subst e
   have h1 : (List.range i).countP q = (List.range i).countP p := by
    apply List.countP_congr
    intro j hj
    rw [List.mem_range] at hj
    rw [h j (by omega)]
   rw [h1]
   simp [hp, hq]
  ·
   have ih := count_less p q i hp hq h n (by omega)
   simp only [List.countP_cons, List.countP_nil, h n (fun x => e x.symm)]
   omega
def unl (ops : Array Oper) (listed : Array Bool) : Nat := (List.range ops.size).countP fun i => !listed.getD i true
theorem getD_set_self {l : Array Bool} {i : Nat} : (l.setIfInBounds i true).getD i true = true := by
 rw [Array.getD_eq_getD_getElem?, Array.getElem?_setIfInBounds_self]
 split <;> rfl
theorem getD_set_other {l : Array Bool} {i j : Nat} (d : Bool) (h : i ≠ j) : (l.setIfInBounds i true).getD j d = l.getD j d := by
 simp [Array.getElem?_setIfInBounds_ne h]
theorem unl_set {listed : Array Bool} {i : Nat} (hi : i < ops.size) (h : listed.getD i true = false) : unl ops (listed.setIfInBounds i true) + 1 = unl ops listed :=
 count_less _ _ i (by simp only [h, Bool.not_false]) (by simp only [getD_set_self, Bool.not_true]) (fun j hj => by simp only [getD_set_other true (Ne.symm hj)]) _ hi
def depOk (md : Region.Mode) (ops : Array Oper) (listed0 : Array Bool) : Bool :=
 (List.range ops.size).all fun i => listed0.getD i true || match ops[i]? with
  | none => true
  | some o => (o.looksAt ops).all (fun t => (List.range ops.size).all fun j => listed0.getD j true || (match ops[j]? with
   | none => true
   | some p => p.dst != some t || o.after.any fun e => Region.binds md e && e.on == j)) && o.after.all fun e => !Region.binds md e || decide (e.on < i)
theorem depOk_spec {listed0 : Array Bool} (h : depOk md ops listed0 = true) {i : Nat} {o : Oper} (hi : ops[i]? = some o) (hl : listed0.getD i true = false) :
  (∀ t ∈ o.looksAt ops, ∀ j p, ops[j]? = some p → listed0.getD j true = false → p.dst = some t → ∃ e ∈ o.after, Region.binds md e = true ∧ e.on = j) ∧ ∀ e ∈ o.after, Region.binds md e = true → e.on < i := by
 have lt : ∀ {k : Nat} {p : Oper}, ops[k]? = some p → k < ops.size := fun hk => by
  rcases Nat.lt_or_ge _ ops.size with h | h
  ·
   exact h
  ·
   rw [Array.getElem?_eq_none h] at hk; cases hk
 unfold depOk at h
 rw [List.all_eq_true] at h
 have h1 := h i (List.mem_range.2 (lt hi))
 simp only [hl, hi, Bool.false_or, Bool.and_eq_true, List.all_eq_true, Array.all_eq_true_iff_forall_mem] at h1
 refine ⟨fun t ht j p hj hjl hd => ?_, fun e he hb => by have := h1.2 e he; simpa [hb] using this⟩
 have h2 := h1.1 t ht j (List.mem_range.2 (lt hj))
 simp only [hjl, hj, hd, Bool.false_or, bne_self_eq_false] at h2
 rw [Array.any_eq_true] at h2
 obtain ⟨k, hk, h3⟩ := h2
 rw [Bool.and_eq_true, beq_iff_eq] at h3
 exact ⟨_, Array.getElem_mem hk, h3.1, h3.2⟩
def Closed (md : Region.Mode) (ops : Array Oper) (listed : Array Bool) : Prop := ∀ i o, ops[i]? = some o → listed.getD i false = true → ∀ e ∈ o.after, Region.binds md e = true → listed.getD e.on false = true
def closedOk (md : Region.Mode) (ops : Array Oper) (listed : Array Bool) : Bool := (List.range ops.size).all fun i => match ops[i]? with
 | none => true
 | some o => !listed.getD i false || o.after.all fun e => !Region.binds md e || listed.getD e.on false
theorem closedOk_spec {listed : Array Bool} (h : closedOk md ops listed = true) : Closed md ops listed := by
 intro i o ho hl e he hb
 unfold closedOk at h
 rw [List.all_eq_true] at h
 have hlt : i < ops.size := by
  rcases Nat.lt_or_ge i ops.size with h | h
  ·
   exact h
  ·
   rw [Array.getElem?_eq_none h] at ho; cases ho
 have h1 := h i (List.mem_range.2 hlt)
 simp only [ho, hl, Bool.not_true, Bool.false_or, Array.all_eq_true_iff_forall_mem] at h1
 have h2 := h1 e he
 simpa [hb] using h2
theorem Closed.set {listed : Array Bool} {i : Nat} {o : Oper} (h : Closed md ops listed) (ho : ops[i]? = some o) (ha : ∀ e ∈ o.after, Region.binds md e = true → listed.getD e.on false = true) : Closed md ops (listed.setIfInBounds i true) := by
 intro j p hp hl e he hb
 have up : ∀ k, listed.getD k false = true → (listed.setIfInBounds i true).getD k false = true := fun k hk => by
  rw [Array.getD_eq_getD_getElem?] at hk ⊢
  by_cases e : i = k
  ·
   subst e
   rw [Array.getElem?_setIfInBounds_self]
   split
   ·
    rfl
   ·
    rename_i h1
    rw [Array.getElem?_eq_none (by omega)] at hk; exact hk
  ·
   rw [Array.getElem?_setIfInBounds_ne e]; exact hk
 by_cases ej : i = j
 ·
  subst ej
  rw [ho] at hp
  cases hp
  exact up _ (ha e he hb)
 ·
  rw [getD_set_other false ej] at hl
  exact up _ (h j p hp hl e he hb)
def anc (md : Region.Mode) (ops : Array Oper) : Nat → Nat → Nat → Bool
 | 0, _, _ => false
 | n + 1, i, k => match ops[i]? with
  | none => false
  | some o => o.after.any fun e => Region.binds md e && (e.on == k || anc md ops n e.on k)
theorem anc_listed {listed : Array Bool} (hc : Closed md ops listed) {k : Nat} : ∀ (n i : Nat) (o : Oper), ops[i]? = some o → (∀ e ∈ o.after, Region.binds md e = true → listed.getD e.on false = true) → anc md ops n i k = true → listed.getD k false = true
 | 0, _, _, _, _, h => by cases h
 | n + 1, i, o, ho, ha, h => by
  unfold anc at h
  rw [ho] at h
  simp only at h
  rw [Array.any_eq_true] at h
  obtain ⟨j, hj, h1⟩ := h
  rw [Bool.and_eq_true, Bool.or_eq_true, beq_iff_eq] at h1
  have h2 := ha _ (Array.getElem_mem hj) h1.1
  rcases h1.2 with h3 | h3
  ·
   rw [← h3]; exact h2
  ·
   cases hp : ops[(o.after[j]).on]? with
   | none =>
    cases n with
    | zero => cases h3
    | succ n => unfold anc at h3; rw [hp] at h3; cases h3
   | some p => exact anc_listed hc n _ p hp (hc _ p hp h2) h3
def Good (P : Program) (ops : Array Oper) (Q : Exit → Act → World → Prop) {γ : Type} (S : Array Bool → γ → World → Prop) (A : γ → Array Value) (df : List Deferred) (i : Nat) (o : Oper) (listed : Array Bool) (g : γ) (w : World) : Prop :=
 (Region.wanted o (yielded ops (A g)) = true ∧ o.wp P ⟨A g, df⟩ w (fun a2 w' => ∃ g', S (listed.setIfInBounds i true) g' w' ∧ a2.defers = df ∧ (∀ d, o.dst = some d → a2.tmps[d]? = (A g')[d]? ∧ d < (A g).size) ∧ (A g').size = (A g).size ∧ ∀ t, o.dst ≠ some t → (∀ j p, ops[j]? = some p → listed.getD j true = false → p.dst ≠ some t) → (A g')[t]? = (A g)[t]?) Q) ∨
 (Region.wanted o (yielded ops (A g)) = false ∧ S (listed.setIfInBounds i true) g w ∧ ∀ d, o.dst = some d → (A g)[d]? = some undef)
theorem wpAnyH_det {γ : Type} (S : Array Bool → γ → World → Prop) (A : γ → Array Value) {Sx : World → Prop} {df : List Deferred} {listed0 : Array Bool}
  (hsel : Region.noSelect ops = true) (hdep : depOk md ops listed0 = true) (hQ : ∀ c a b w, Q (.panic c) a w → Q (.panic c) b w) (hSx : ∀ listed g w, S listed g w → Sx w)
  (hop : ∀ i o, ops[i]? = some o → listed0.getD i true = false → ∀ listed g w, (∀ e ∈ o.after, Region.binds md e = true → listed.getD e.on false = true) → Closed md ops listed → listed.size = ops.size → listed.getD i true = false → S listed g w → Good P ops Q S A df i o listed g w)
  (hend : ∀ listed g w, (∀ i o, ops[i]? = some o → listed.getD i false = true) → S listed g w → Q .normal ⟨A g, df⟩ w) :
  ∀ (fuel : Nat) (listed : Array Bool) (g : γ) (a : Act) (w : World), (∀ i, listed0.getD i true = true → listed.getD i true = true) → unl ops listed ≤ fuel → listed.size = ops.size → Closed md ops listed → S listed g w → a.defers = df → a.tmps.size = (A g).size →
   (∀ t, (∀ i o, ops[i]? = some o → listed.getD i true = false → o.dst ≠ some t) → a.tmps[t]? = (A g)[t]?) → wpAnyH P md ops Q Sx fuel listed a w := by
 have lt : ∀ {k : Nat} {p : Oper}, ops[k]? = some p → k < ops.size := fun hk => by
  rcases Nat.lt_or_ge _ ops.size with h | h
  ·
   exact h
  ·
   rw [Array.getElem?_eq_none h] at hk; cases hk
 have fin : ∀ (listed : Array Bool) (g : γ) (a : Act) (w : World), (∀ i, listed0.getD i true = true → listed.getD i true = true) → listed.size = ops.size → Region.ready md ops listed = [] → S listed g w → a.defers = df → a.tmps.size = (A g).size →
   (∀ t, (∀ i o, ops[i]? = some o → listed.getD i true = false → o.dst ≠ some t) → a.tmps[t]? = (A g)[t]?) → Q .normal a w := by
  intro listed g a w hge hlsz hr hS hdf hsz hag
  have hall : ∀ i, ∀ o, ops[i]? = some o → listed.getD i true = true := by
   intro i
   induction i using Nat.strongRecOn with
   | _ i ih =>
    intro o ho
    cases hli : listed.getD i true with
    | true => rfl
    | false =>
     exfalso
     have hl0 : listed0.getD i true = false := by
      cases h0 : listed0.getD i true with
      | false => rfl
      | true => rw [hge i h0] at hli; cases hli
     have hm : i ∈ Region.ready md ops listed := mem_ready.2 ⟨hli, o, ho, fun e he hb => by
      have hlt := (depOk_spec hdep ho hl0).2 e he hb
      obtain ⟨p, hp⟩ : ∃ p, ops[e.on]? = some p := ⟨_, Array.getElem?_eq_getElem (Nat.lt_trans hlt (lt ho))⟩
      have h1 := ih e.on hlt p hp
      have hsz2 : e.on < listed.size := by
       rcases Nat.lt_or_ge i listed.size with h | h
       ·
        exact Nat.lt_trans hlt h
       ·
        rw [Array.getD_eq_getD_getElem?, Array.getElem?_eq_none h] at hli; cases hli
      rw [Array.getD_eq_getD_getElem?, Array.getElem?_eq_getElem hsz2] at h1 ⊢
      exact h1⟩
     rw [hr] at hm
     cases hm
  have ha : a = ⟨A g, df⟩ := by
   obtain ⟨ts, ds⟩ := a
   simp only at hdf hsz hag
   subst hdf
   congr 1
   apply Array.ext_getElem?
   intro t
   exact hag t (fun i o ho hl => by rw [hall i o ho] at hl; cases hl)
  rw [ha]
  refine hend listed g w (fun i o ho => ?_) hS
  have h1 := hall i o ho
  have h2 : i < listed.size := by rw [hlsz]; exact lt ho
  rw [Array.getD_eq_getD_getElem?, Array.getElem?_eq_getElem h2] at h1 ⊢
  exact h1
 intro fuel
 induction fuel with
 | zero =>
  intro listed g a w hge hu hlsz hcl hS hdf hsz hag
  have hr : Region.ready md ops listed = [] := by
   cases hr : Region.ready md ops listed with
   | nil => rfl
   | cons i r =>
    exfalso
    have hm : i ∈ Region.ready md ops listed := by rw [hr]; exact List.mem_cons_self
    obtain ⟨h1, o, ho, _⟩ := mem_ready.1 hm
    have := unl_set (lt ho) h1
    omega
  exact ⟨hr, fin listed g a w hge hlsz hr hS hdf hsz hag⟩
 | succ fuel ih =>
  intro listed g a w hge hu hlsz hcl hS hdf hsz hag
  refine ⟨fun hr => fin listed g a w hge hlsz hr hS hdf hsz hag, fun i hi => ?_⟩
  obtain ⟨hli, o, ho, haft⟩ := mem_ready.1 hi
  have hl0 : listed0.getD i true = false := by
   cases h0 : listed0.getD i true with
   | false => rfl
   | true => rw [hge i h0] at hli; cases hli
  have hd := (depOk_spec hdep ho hl0).1
  have hlook : ∀ t ∈ o.looksAt ops, a.tmps[t]? = (A g)[t]? := fun t ht => hag t fun j p hj hjl hdst => by
   have hj0 : listed0.getD j true = false := by
    cases h0 : listed0.getD j true with
    | false => rfl
    | true => rw [hge j h0] at hjl; cases hjl
   obtain ⟨e, he, hb, hon⟩ := hd t ht j p hj hj0 hdst
   have h1 := haft e he hb
   rw [hon] at h1
   rw [Array.getD_eq_getD_getElem?] at h1 hjl
   cases hx : listed[j]? with
   | none => rw [hx] at h1; cases h1
   | some b => rw [hx] at h1 hjl; simp only [Option.getD_some] at h1 hjl; rw [h1] at hjl; cases hjl
  have heval : ∀ x ∈ o.op.operands, a.eval x = (Act.mk (A g) df).eval x := fun x hx => by
   cases x with
   | tmp t =>
    have := hlook t (by unfold Oper.looksAt; exact List.mem_append_left _ (List.mem_filterMap.2 ⟨.tmp t, by simpa using hx, rfl⟩))
    simp only [Act.eval, Array.getD_eq_getD_getElem?, this]
   | _ => rfl
  have hwant : Region.wanted o (yielded ops a.tmps) = Region.wanted o (yielded ops (A g)) := by
   unfold Region.wanted
   cases hg : o.guard with
   | none => rfl
   | some gw =>
    obtain ⟨k, want⟩ := gw
    simp only
    have : yielded ops a.tmps k = yielded ops (A g) k := by
     unfold yielded
     cases hk : (ops[k]?).bind (·.dst) with
     | none => rfl
     | some t =>
      have := hlook t (by unfold Oper.looksAt; rw [hg]; simp only [hk]; exact List.mem_append_right _ (by simp))
      simp only [Option.bind_some, this]
    rw [this]
  have next : ∀ g' a' w', S (listed.setIfInBounds i true) g' w' → a'.defers = df → a'.tmps.size = (A g').size → (∀ t, (∀ j p, ops[j]? = some p → (listed.setIfInBounds i true).getD j true = false → p.dst ≠ some t) → a'.tmps[t]? = (A g')[t]?) → Sx w' ∧ wpAnyH P md ops Q Sx fuel (listed.setIfInBounds i true) a' w' := by
   intro g' a' w' h1 h2 h3 h4
   refine ⟨hSx _ _ _ h1, ih _ g' a' w' (fun j hj => ?_) ?_ (by rw [Array.size_setIfInBounds]; exact hlsz) (hcl.set ho haft) h1 h2 h3 h4⟩
   ·
    by_cases e : i = j
    ·
     subst e; exact getD_set_self
    ·
     rw [getD_set_other true e]; exact hge j hj
   ·
    have := unl_set (lt ho) hli
    omega
  have agree : ∀ g' v, (∀ d, o.dst = some d → (some v = (A g')[d]?) ∧ d < (A g).size) → (A g').size = (A g).size → (∀ t, o.dst ≠ some t → (∀ j p, ops[j]? = some p → listed.getD j true = false → p.dst ≠ some t) → (A g')[t]? = (A g)[t]?) →
    ∀ t, (∀ j p, ops[j]? = some p → (listed.setIfInBounds i true).getD j true = false → p.dst ≠ some t) → (a.put o.dst v).tmps[t]? = (A g')[t]? := by
   intro g' v h1 _ h3 t ht
   by_cases e : o.dst = some t
   ·
    have h5 := h1 t e
    rw [← h5.1]
    simp only [Act.put, e, Array.getElem?_setIfInBounds_self, hsz]
    rw [if_pos h5.2]
   ·
    have h7 : ∀ j p, ops[j]? = some p → listed.getD j true = false → p.dst ≠ some t := fun j p hj hjl => by
     by_cases ej : i = j
     ·
      subst ej; rw [ho] at hj; cases hj; exact e
     ·
      exact ht j p hj (by rw [getD_set_other true ej]; exact hjl)
    have h6 : a.tmps[t]? = (A g)[t]? := hag t h7
    rw [h3 t e h7, ← h6]
    cases hdst : o.dst with
    | none => rfl
    | some d =>
     have : d ≠ t := fun x => e (by rw [hdst, x])
     simp [Act.put, Array.getElem?_setIfInBounds_ne this]
  have size_put : ∀ v, (a.put o.dst v).tmps.size = a.tmps.size := fun v => by cases o.dst <;> simp [Act.put]
  have defers_put : ∀ v, (a.put o.dst v).defers = a.defers := fun v => by cases o.dst <;> rfl
  unfold wpOp
  simp only [ho]
  rcases hop i o ho hl0 listed g w haft hcl hlsz hli hS with ⟨hw, hwp⟩ | ⟨hw, hS', hu2⟩
  ·
   rw [hwant, hw, if_pos rfl]
   refine .inl (wp_agree (Region.noSelect_spec hsel i o · · ho) heval (fun c w => hQ c _ _ w) (fun v w' hk => ?_) (fun d w' hk => ?_) hwp)
   ·
    obtain ⟨g', k1, _, k3, k4, k5⟩ := hk
    refine next g' _ w' k1 (by rw [defers_put, hdf]) (by rw [size_put, hsz, k4]) (agree g' v (fun d hd' => ?_) k4 k5)
    have k6 := k3 d hd'
    refine ⟨?_, k6.2⟩
    rw [← k6.1]
    simp only [Act.put, hd', Array.getElem?_setIfInBounds_self]
    rw [if_pos k6.2]
   ·
    obtain ⟨g', _, k2, _⟩ := hk
    have : (({ (Act.mk (A g) df) with defers := d :: df } : Act).put o.dst undef).defers = d :: df := by cases o.dst <;> rfl
    rw [this] at k2
    exact absurd (congrArg List.length k2) (by simp)
  ·
   rw [hwant, hw]
   simp only [Bool.false_eq_true, if_false]
   refine next g _ w hS' (by rw [defers_put, hdf]) (by rw [size_put, hsz]) (agree g undef (fun d hd' => ⟨(hu2 d hd').symm, ?_⟩) rfl (fun _ _ _ => rfl))
   have := hu2 d hd'
   rcases Nat.lt_or_ge d (A g).size with h | h
   ·
    exact h
   ·
    rw [Array.getElem?_eq_none h] at this; cases this
end
end Go.Proofs.YtbfoonfbhebhfaaGreatDoor
namespace Go.Proofs.YtbfoonfbhebhfaaGreatDoor
open Go.RowKit
def setAll (l : List Value) (vs : List (Nat × Value)) : List Value := vs.foldl (fun l p => l.set p.1 p.2) l
theorem setAll_length : ∀ (vs : List (Nat × Value)) (l : List Value), (setAll l vs).length = l.length
 | [], _ => rfl
 | p :: vs, l => by
  show (setAll (l.set p.1 p.2) vs).length = _
  rw [setAll_length vs, List.length_set]
theorem setAll_get : ∀ (vs : List (Nat × Value)) (l : List Value) (t : Nat), (∀ p ∈ vs, p.1 ≠ t) → (setAll l vs)[t]? = l[t]?
 | [], _, _, _ => rfl
 | p :: vs, l, t, h => by
  show (setAll (l.set p.1 p.2) vs)[t]? = _
  rw [setAll_get vs _ t (fun q hq => h q (List.mem_cons_of_mem _ hq)), List.getElem?_set_ne (h p List.mem_cons_self)]
section
variable {P : Program} {ops : Array Oper} {Q : Exit → Act → World → Prop} {md : Region.Mode}
def exOk (md : Region.Mode) (ops : Array Oper) (i : Nat) (ex : List Nat) : Bool := ex.all fun t => (List.range ops.size).any fun j => anc md ops ops.size j i && (match ops[j]? with | none => false | some p => p.dst == some t)
inductive Differ (ex : List Nat) : List (Nat × Value) → List (Nat × Value) → Prop
 | nil : Differ ex [] []
 | same {k : Nat} {a : Value} {vs us : List (Nat × Value)} : Differ ex vs us → Differ ex ((k, a) :: vs) ((k, a) :: us)
 | diff {k : Nat} {a b : Value} {vs us : List (Nat × Value)} : k ∈ ex → Differ ex vs us → Differ ex ((k, a) :: vs) ((k, b) :: us)
theorem Differ.get {ex : List Nat} {vs us : List (Nat × Value)} (h : Differ ex vs us) : ∀ (l m : List Value), l.length = m.length → (∀ t, t ∉ ex → l[t]? = m[t]?) → ∀ t, t ∉ ex → (setAll l vs)[t]? = (setAll m us)[t]? := by
 induction h with
 | nil => intro l m _ h t ht; exact h t ht
 | @same k a vs us _ ih =>
  intro l m hl h t ht
  refine ih (l.set k a) (m.set k a) (by rw [List.length_set, List.length_set, hl]) (fun t ht => ?_) t ht
  rw [List.getElem?_set, List.getElem?_set, h t ht, hl]
 | @diff k a b vs us hk _ ih =>
  intro l m hl h t ht
  refine ih (l.set k a) (m.set k b) (by rw [List.length_set, List.length_set, hl]) (fun t ht => ?_) t ht
  have : k ≠ t := fun e => ht (e ▸ hk)
  rw [List.getElem?_set_ne this, List.getElem?_set_ne this, h t ht]
inductive Obls (P : Program) (ops : Array Oper) (Q : Exit → Act → World → Prop) (md : Region.Mode) {γ : Type} (Sx : World → Prop) (mks : List Nat) (B : Nat → γ → World → Prop) (l : List Value) (keys : List Nat) (vals : γ → List Value) (df : List Deferred) : List Nat → Prop
 | nil : Obls P ops Q md Sx mks B l keys vals df []
 | val {i : Nat} {r : List Nat} (o : Oper) (d : Nat) (v : γ → Value) (ho : ops[i]? = some o) (hk : i ∉ mks) (hd : o.dst = some d) (hw : ∀ g, Region.wanted o (yielded ops (setAll l (keys.zip (vals g))).toArray) = true)
   (hv : ∀ g w, Sx w → (∀ k ∈ mks, anc md ops ops.size i k = true → B k g w) → (execOp (Act.mk (setAll l (keys.zip (vals g))).toArray df).eval o).run P w = .ok (.value (v g)) w)
   (hA : ∀ g, (setAll l (keys.zip (vals g)))[d]? = some (v g)) (t : Obls P ops Q md Sx mks B l keys vals df r) : Obls P ops Q md Sx mks B l keys vals df (i :: r)
 | call {i : Nat} {r : List Nat} (o : Oper) (d : Nat) (v : Value) (f : FuncId) (args : Array Value) (ho : ops[i]? = some o) (hk : i ∉ mks) (hd : o.dst = some d) (hw : ∀ g, Region.wanted o (yielded ops (setAll l (keys.zip (vals g))).toArray) = true)
   (hv : ∀ g w, Sx w → (execOp (Act.mk (setAll l (keys.zip (vals g))).toArray df).eval o).run P w = .ok (.enter f args) w) (hc : ∀ g w, Sx w → Calls P f args w fun e w' => e = .returned v ∧ Sx w' ∧ ∀ k ∈ mks, B k g w → B k g w')
   (hA : ∀ g, (setAll l (keys.zip (vals g)))[d]? = some v) (t : Obls P ops Q md Sx mks B l keys vals df r) : Obls P ops Q md Sx mks B l keys vals df (i :: r)
 | callB {i : Nat} {r : List Nat} (o : Oper) (d : Nat) (v : γ → Value) (f : FuncId) (args : γ → Array Value) (ho : ops[i]? = some o) (hk : i ∉ mks) (hd : o.dst = some d) (hw : ∀ g, Region.wanted o (yielded ops (setAll l (keys.zip (vals g))).toArray) = true)
   (hv : ∀ g w, Sx w → (execOp (Act.mk (setAll l (keys.zip (vals g))).toArray df).eval o).run P w = .ok (.enter f (args g)) w) (hc : ∀ g w, Sx w → (∀ k ∈ mks, anc md ops ops.size i k = true → B k g w) → Calls P f (args g) w fun e w' => e = .returned (v g) ∧ Sx w' ∧ ∀ k ∈ mks, B k g w → B k g w')
   (hA : ∀ g, (setAll l (keys.zip (vals g)))[d]? = some (v g)) (t : Obls P ops Q md Sx mks B l keys vals df r) : Obls P ops Q md Sx mks B l keys vals df (i :: r)
 | nt {i : Nat} {r : List Nat} (o : Oper) (d : Nat) (ho : ops[i]? = some o) (hk : i ∉ mks) (hd : o.dst = some d) (hw : ∀ g, Region.wanted o (yielded ops (setAll l (keys.zip (vals g))).toArray) = false)
   (hA : ∀ g, (setAll l (keys.zip (vals g)))[d]? = some undef) (t : Obls P ops Q md Sx mks B l keys vals df r) : Obls P ops Q md Sx mks B l keys vals df (i :: r)
 | mk {i : Nat} {r : List Nat} (o : Oper) (d : Nat) (ex : List Nat) (hex : exOk md ops i ex = true) (ho : ops[i]? = some o) (hd : o.dst = some d) (hw : ∀ g, Region.wanted o (yielded ops (setAll l (keys.zip (vals g))).toArray) = true)
   (hv : ∀ g w, Sx w → (∀ k ∈ mks, anc md ops ops.size i k = true → B k g w) → ∃ g' v w', (execOp (Act.mk (setAll l (keys.zip (vals g))).toArray df).eval o).run P w = .ok (.value v) w' ∧ (setAll l (keys.zip (vals g')))[d]? = some v ∧ Sx w' ∧ B i g' w' ∧ (∀ k ∈ mks, k ≠ i → anc md ops ops.size k i = false → B k g w → B k g' w') ∧ ∀ t, t ∉ d :: ex → (setAll l (keys.zip (vals g')))[t]? = (setAll l (keys.zip (vals g)))[t]?)
   (t : Obls P ops Q md Sx mks B l keys vals df r) : Obls P ops Q md Sx mks B l keys vals df (i :: r)
 | callM {i : Nat} {r : List Nat} (o : Oper) (d : Nat) (ex : List Nat) (f : FuncId) (args : Array Value) (hex : exOk md ops i ex = true) (ho : ops[i]? = some o) (hd : o.dst = some d) (hw : ∀ g, Region.wanted o (yielded ops (setAll l (keys.zip (vals g))).toArray) = true)
   (he : ∀ g w, Sx w → (execOp (Act.mk (setAll l (keys.zip (vals g))).toArray df).eval o).run P w = .ok (.enter f args) w)
   (hc : ∀ g w, Sx w → (∀ k ∈ mks, anc md ops ops.size i k = true → B k g w) → Calls P f args w fun e w' => ∃ g' v, e = .returned v ∧ (setAll l (keys.zip (vals g')))[d]? = some v ∧ Sx w' ∧ B i g' w' ∧ (∀ k ∈ mks, k ≠ i → anc md ops ops.size k i = false → B k g w → B k g' w') ∧ ∀ t, t ∉ d :: ex → (setAll l (keys.zip (vals g')))[t]? = (setAll l (keys.zip (vals g)))[t]?)
   (t : Obls P ops Q md Sx mks B l keys vals df r) : Obls P ops Q md Sx mks B l keys vals df (i :: r)
 | eff {i : Nat} {r : List Nat} (o : Oper) (ho : ops[i]? = some o) (hd : o.dst = none) (hw : ∀ g, Region.wanted o (yielded ops (setAll l (keys.zip (vals g))).toArray) = true)
   (hv : ∀ g w, Sx w → (∀ k ∈ mks, anc md ops ops.size i k = true → B k g w) → o.wp P ⟨(setAll l (keys.zip (vals g))).toArray, df⟩ w (fun a' w' => a'.defers = df ∧ Sx w' ∧ B i g w' ∧ ∀ k ∈ mks, k ≠ i → B k g w → B k g w') Q)
   (t : Obls P ops Q md Sx mks B l keys vals df r) : Obls P ops Q md Sx mks B l keys vals df (i :: r)
def GoodP (P : Program) (ops : Array Oper) (Q : Exit → Act → World → Prop) {γ : Type} (Sx : World → Prop) (mks : List Nat) (B : Nat → γ → World → Prop) (A : Array Value) (df : List Deferred) (g : γ) (o : Oper) (w : World) : Prop :=
 (Region.wanted o (yielded ops A) = true ∧ o.wp P ⟨A, df⟩ w (fun a2 w' => Sx w' ∧ (∀ k ∈ mks, B k g w → B k g w') ∧ a2.defers = df ∧ ∀ d, o.dst = some d → a2.tmps[d]? = A[d]? ∧ d < A.size) Q) ∨
 (Region.wanted o (yielded ops A) = false ∧ ∀ d, o.dst = some d → A[d]? = some undef)
theorem good_val {γ : Type} {Sx : World → Prop} {mks : List Nat} {B : Nat → γ → World → Prop} {l : List Value} {df : List Deferred} {g : γ} {o : Oper} {w : World} {d : Nat} (v : Value) (hd : o.dst = some d) (hw : Region.wanted o (yielded ops l.toArray) = true)
  (hv : (execOp (Act.mk l.toArray df).eval o).run P w = .ok (.value v) w) (hA : l[d]? = some v) (hS : Sx w) : GoodP P ops Q Sx mks B l.toArray df g o w := by
 have hlt : d < l.length := by
  rcases Nat.lt_or_ge d l.length with h | h
  ·
   exact h
  ·
   rw [List.getElem?_eq_none h] at hA; cases hA
 refine .inl ⟨hw, ?_⟩
 unfold Oper.wp
 rw [hv]
 refine ⟨hS, fun _ _ h => h, by rw [hd]; rfl, fun d' hd' => ?_⟩
 rw [hd] at hd'
 cases hd'
 rw [hd]
 refine ⟨?_, by simpa using hlt⟩
 refine Eq.trans ?_ ((List.getElem?_toArray (xs := l) (i := d)).trans hA).symm
 show (l.toArray.setIfInBounds d v)[d]? = some v
 rw [Array.getElem?_setIfInBounds_self, if_pos (by simpa using hlt)]
theorem good_not {γ : Type} {Sx : World → Prop} {mks : List Nat} {B : Nat → γ → World → Prop} {l : List Value} {df : List Deferred} {g : γ} {o : Oper} {w : World} {d : Nat} (hd : o.dst = some d) (hw : Region.wanted o (yielded ops l.toArray) = false) (hA : l[d]? = some undef) : GoodP P ops Q Sx mks B l.toArray df g o w :=
 .inr ⟨hw, fun d' hd' => by rw [hd] at hd'; cases hd'; simpa using hA⟩
theorem good_call {γ : Type} {Sx : World → Prop} {mks : List Nat} {B : Nat → γ → World → Prop} {l : List Value} {df : List Deferred} {g : γ} {o : Oper} {w : World} {d : Nat} {f : FuncId} {args : Array Value} (v : Value) (hd : o.dst = some d) (hw : Region.wanted o (yielded ops l.toArray) = true)
  (hr : (execOp (Act.mk l.toArray df).eval o).run P w = .ok (.enter f args) w) (hc : Calls P f args w fun e w' => e = .returned v ∧ Sx w' ∧ ∀ k ∈ mks, B k g w → B k g w') (hA : l[d]? = some v) : GoodP P ops Q Sx mks B l.toArray df g o w := by
 have hlt : d < l.length := by
  rcases Nat.lt_or_ge d l.length with h | h
  ·
   exact h
  ·
   rw [List.getElem?_eq_none h] at hA; cases hA
 refine .inl ⟨hw, ?_⟩
 unfold Oper.wp
 rw [hr]
 refine Calls.mono hc ?_
 rintro e w' ⟨rfl, h1, h2⟩
 refine ⟨h1, h2, by rw [hd]; rfl, fun d' hd' => ?_⟩
 rw [hd] at hd'
 cases hd'
 rw [hd]
 refine ⟨?_, by simpa using hlt⟩
 refine Eq.trans ?_ ((List.getElem?_toArray (xs := l) (i := d)).trans hA).symm
 show (l.toArray.setIfInBounds d v)[d]? = some v
 rw [Array.getElem?_setIfInBounds_self, if_pos (by simpa using hlt)]
theorem Obls.good {γ : Type} {Sx : World → Prop} {mks : List Nat} {B : Nat → γ → World → Prop} {l : List Value} {keys : List Nat} {vals : γ → List Value} {df : List Deferred} {todo : List Nat} (h : Obls P ops Q md Sx mks B l keys vals df todo) :
  ∀ i ∈ todo, ∀ o, ops[i]? = some o → ∀ (listed : Array Bool) (g : γ) (w : World), (∀ e ∈ o.after, Region.binds md e = true → listed.getD e.on false = true) → Closed md ops listed → listed.size = ops.size → listed.getD i true = false → (Sx w ∧ ∀ k ∈ mks, listed.getD k false = true → B k g w) → Good P ops Q (fun listed g w => Sx w ∧ ∀ k ∈ mks, listed.getD k false = true → B k g w) (fun g => (setAll l (keys.zip (vals g))).toArray) df i o listed g w := by
 have old : ∀ (i k : Nat) (listed : Array Bool), i ≠ k → (listed.setIfInBounds i true).getD k false = true → listed.getD k false = true := fun i k listed hk h => by
  rwa [getD_set_other false hk] at h
 have plain : ∀ (i : Nat) (o : Oper) (_ : ops[i]? = some o) (hk : i ∉ mks) (listed : Array Bool) (g : γ) (w : World), (∀ e ∈ o.after, Region.binds md e = true → listed.getD e.on false = true) → Closed md ops listed → (Sx w ∧ ∀ k ∈ mks, listed.getD k false = true → B k g w) →
   ((∀ k ∈ mks, anc md ops ops.size i k = true → B k g w) → GoodP P ops Q Sx mks B (setAll l (keys.zip (vals g))).toArray df g o w) → Good P ops Q (fun listed g w => Sx w ∧ ∀ k ∈ mks, listed.getD k false = true → B k g w) (fun g => (setAll l (keys.zip (vals g))).toArray) df i o listed g w := by
  intro i o ho hk listed g w ha hcl hS hx
  have hset : ∀ w', (∀ k ∈ mks, B k g w → B k g w') → ∀ k ∈ mks, (listed.setIfInBounds i true).getD k false = true → B k g w' := fun w' hb k hkm h =>
   hb k hkm (hS.2 k hkm (old i k listed (fun e => hk (e ▸ hkm)) h))
  rcases hx (fun k hkm hanc => hS.2 k hkm (anc_listed hcl _ i o ho ha hanc)) with ⟨h1, h2⟩ | ⟨h1, h2⟩
  ·
   exact .inl ⟨h1, Oper.wp_mono (fun a2 w' ⟨k1, k2, k3, k4⟩ => ⟨g, ⟨k1, hset w' k2⟩, k3, k4, rfl, fun _ _ _ => rfl⟩) h2⟩
  ·
   exact .inr ⟨h1, ⟨hS.1, hset w fun _ _ h => h⟩, h2⟩
 induction h with
 | nil => intro i hi; cases hi
 | @val j r o' d v ho' hk hd hw hv hA _ ih =>
  intro i hi o ho listed g w ha hcl hlsz hli hS
  rcases List.mem_cons.1 hi with rfl | hi
  ·
   have ee : o = o' := by rw [ho] at ho'; injection ho'
   subst ee
   exact plain i o ho hk listed g w ha hcl hS fun hB => good_val (v g) hd (hw g) (hv g w hS.1 hB) (hA g) hS.1
  ·
   exact ih i hi o ho listed g w ha hcl hlsz hli hS
 | @call j r o' d v f args ho' hk hd hw hv hc hA _ ih =>
  intro i hi o ho listed g w ha hcl hlsz hli hS
  rcases List.mem_cons.1 hi with rfl | hi
  ·
   have ee : o = o' := by rw [ho] at ho'; injection ho'
   subst ee
   exact plain i o ho hk listed g w ha hcl hS fun _ => good_call v hd (hw g) (hv g w hS.1) (hc g w hS.1) (hA g)
  ·
   exact ih i hi o ho listed g w ha hcl hlsz hli hS
 | @callB j r o' d v f args ho' hk hd hw hv hc hA _ ih =>
  intro i hi o ho listed g w ha hcl hlsz hli hS
  rcases List.mem_cons.1 hi with rfl | hi
  ·
   have ee : o = o' := by rw [ho] at ho'; injection ho'
   subst ee
   exact plain i o ho hk listed g w ha hcl hS fun hB => good_call (v g) hd (hw g) (hv g w hS.1) (hc g w hS.1 hB) (hA g)
  ·
   exact ih i hi o ho listed g w ha hcl hlsz hli hS
 | @nt j r o' d ho' hk hd hw hA _ ih =>
  intro i hi o ho listed g w ha hcl hlsz hli hS
  rcases List.mem_cons.1 hi with rfl | hi
  ·
   have ee : o = o' := by rw [ho] at ho'; injection ho'
   subst ee
   exact plain i o ho hk listed g w ha hcl hS fun _ => good_not hd (hw g) (hA g)
  ·
   exact ih i hi o ho listed g w ha hcl hlsz hli hS
 | @mk j r o' d ex hex ho' hd hw hv _ ih =>
  intro i hi o ho listed g w ha hcl hlsz hli hS
  rcases List.mem_cons.1 hi with rfl | hi
  ·
   have ee : o = o' := by rw [ho] at ho'; injection ho'
   subst ee
   obtain ⟨g', v, w', h1, h2, h3, h4, h5, h6⟩ := hv g w hS.1 (fun k hkm hanc => hS.2 k hkm (anc_listed hcl _ i o ho ha hanc))
   have hlt : d < (setAll l (keys.zip (vals g))).length := by
    rw [setAll_length]
    rcases Nat.lt_or_ge d l.length with h | h
    ·
     exact h
    ·
     rw [List.getElem?_eq_none (by rw [setAll_length]; exact h)] at h2; cases h2
   refine .inl ⟨hw g, ?_⟩
   unfold Oper.wp
   simp only
   rw [h1]
   refine ⟨g', ⟨h3, fun k hkm hl => ?_⟩, by rw [hd]; rfl, fun d' hd' => ?_, by simp [setAll_length], fun t ht hun => ?_⟩
   ·
    by_cases e : i = k
    ·
     subst e; exact h4
    ·
     have hkl := old i k listed e hl
     refine h5 k hkm (Ne.symm e) ?_ (hS.2 k hkm hkl)
     cases hx : anc md ops ops.size k i with
     | false => rfl
     | true =>
      exfalso
      have hksz : k < ops.size := by
       rcases Nat.lt_or_ge k listed.size with h | h
       ·
        omega
       ·
        rw [Array.getD_eq_getD_getElem?, Array.getElem?_eq_none h] at hkl; cases hkl
      have hp := Array.getElem?_eq_getElem hksz
      have h11 := anc_listed hcl _ k _ hp (hcl k _ hp hkl) hx
      rw [Array.getD_eq_getD_getElem?] at h11 hli
      cases hx : listed[i]? with
      | none => rw [hx] at h11; cases h11
      | some b => rw [hx] at h11 hli; simp only [Option.getD_some] at h11 hli; rw [h11] at hli; cases hli
   ·
    rw [hd] at hd'
    cases hd'
    rw [hd]
    refine ⟨?_, by simpa using hlt⟩
    refine Eq.trans ?_ ((List.getElem?_toArray (xs := setAll l (keys.zip (vals g'))) (i := d)).trans h2).symm
    show ((setAll l (keys.zip (vals g))).toArray.setIfInBounds d v)[d]? = some v
    rw [Array.getElem?_setIfInBounds_self, if_pos (by simpa using hlt)]
   ·
    have : t ∉ d :: ex := fun e => by
     rcases List.mem_cons.1 e with e | e
     ·
      exact ht (by rw [hd, e])
     ·
      unfold exOk at hex
      rw [List.all_eq_true] at hex
      have h7 := hex t e
      rw [List.any_eq_true] at h7
      obtain ⟨j, hj, h8⟩ := h7
      rw [Bool.and_eq_true] at h8
      rw [List.mem_range] at hj
      cases hp : ops[j]? with
      | none => rw [hp] at h8; simp at h8
      | some p =>
       rw [hp] at h8
       have h9 := h8.2
       simp only [beq_iff_eq] at h9
       refine hun j p hp ?_ h9
       cases hjl : listed.getD j true with
       | false => rfl
       | true =>
        exfalso
        have h10 : listed.getD j false = true := by
         rw [Array.getD_eq_getD_getElem?, Array.getElem?_eq_getElem (by omega)] at hjl ⊢
         exact hjl
        have h11 := anc_listed hcl _ j p hp (hcl j p hp h10) h8.1
        rw [Array.getD_eq_getD_getElem?] at h11 hli
        cases hx : listed[i]? with
        | none => rw [hx] at h11; cases h11
        | some b => rw [hx] at h11 hli; simp only [Option.getD_some] at h11 hli; rw [h11] at hli; cases hli
    simpa using h6 t this
  ·
   exact ih i hi o ho listed g w ha hcl hlsz hli hS
 | @callM j r o' d ex f args hex ho' hd hw he hc _ ih =>
  intro i hi o ho listed g w ha hcl hlsz hli hS
  rcases List.mem_cons.1 hi with rfl | hi
  ·
   have ee : o = o' := by rw [ho] at ho'; injection ho'
   subst ee
   refine .inl ⟨hw g, ?_⟩
   unfold Oper.wp
   rw [he g w hS.1]
   refine Calls.mono (hc g w hS.1 (fun k hkm hanc => hS.2 k hkm (anc_listed hcl _ i o ho ha hanc))) ?_
   rintro e w' ⟨g', v, rfl, h2, h3, h4, h5, h6⟩
   have hlt : d < (setAll l (keys.zip (vals g))).length := by
    rw [setAll_length]
    rcases Nat.lt_or_ge d l.length with h | h
    ·
     exact h
    ·
     rw [List.getElem?_eq_none (by rw [setAll_length]; exact h)] at h2; cases h2
   refine ⟨g', ⟨h3, fun k hkm hl => ?_⟩, by rw [hd]; rfl, fun d' hd' => ?_, by simp [setAll_length], fun t ht hun => ?_⟩
   ·
    by_cases e : i = k
    ·
     subst e; exact h4
    ·
     have hkl := old i k listed e hl
     refine h5 k hkm (Ne.symm e) ?_ (hS.2 k hkm hkl)
     cases hx : anc md ops ops.size k i with
     | false => rfl
     | true =>
      exfalso
      have hksz : k < ops.size := by
       rcases Nat.lt_or_ge k listed.size with h | h
       ·
        omega
       ·
        rw [Array.getD_eq_getD_getElem?, Array.getElem?_eq_none h] at hkl; cases hkl
      have hp := Array.getElem?_eq_getElem hksz
      have h11 := anc_listed hcl _ k _ hp (hcl k _ hp hkl) hx
      rw [Array.getD_eq_getD_getElem?] at h11 hli
      cases hx : listed[i]? with
      | none => rw [hx] at h11; cases h11
      | some b => rw [hx] at h11 hli; simp only [Option.getD_some] at h11 hli; rw [h11] at hli; cases hli
   ·
    rw [hd] at hd'
    cases hd'
    rw [hd]
    refine ⟨?_, by simpa using hlt⟩
    refine Eq.trans ?_ ((List.getElem?_toArray (xs := setAll l (keys.zip (vals g'))) (i := d)).trans h2).symm
    show ((setAll l (keys.zip (vals g))).toArray.setIfInBounds d v)[d]? = some v
    rw [Array.getElem?_setIfInBounds_self, if_pos (by simpa using hlt)]
   ·
    have : t ∉ d :: ex := fun e => by
     rcases List.mem_cons.1 e with e | e
     ·
      exact ht (by rw [hd, e])
     ·
      unfold exOk at hex
      rw [List.all_eq_true] at hex
      have h7 := hex t e
      rw [List.any_eq_true] at h7
      obtain ⟨j, hj, h8⟩ := h7
      rw [Bool.and_eq_true] at h8
      rw [List.mem_range] at hj
      cases hp : ops[j]? with
      | none => rw [hp] at h8; simp at h8
      | some p =>
       rw [hp] at h8
       have h9 := h8.2
       simp only [beq_iff_eq] at h9
       refine hun j p hp ?_ h9
       cases hjl : listed.getD j true with
       | false => rfl
       | true =>
        exfalso
        have h10 : listed.getD j false = true := by
         rw [Array.getD_eq_getD_getElem?, Array.getElem?_eq_getElem (by omega)] at hjl ⊢
         exact hjl
        have h11 := anc_listed hcl _ j p hp (hcl j p hp h10) h8.1
        rw [Array.getD_eq_getD_getElem?] at h11 hli
        cases hx : listed[i]? with
        | none => rw [hx] at h11; cases h11
        | some b => rw [hx] at h11 hli; simp only [Option.getD_some] at h11 hli; rw [h11] at hli; cases hli
    simpa using h6 t this
  ·
   exact ih i hi o ho listed g w ha hcl hlsz hli hS
 | @eff j r o' ho' hd hw hv _ ih =>
  intro i hi o ho listed g w ha hcl hlsz hli hS
  rcases List.mem_cons.1 hi with rfl | hi
  ·
   have ee : o = o' := by rw [ho] at ho'; injection ho'
   subst ee
   have h1 := hv g w hS.1 (fun k hkm hanc => hS.2 k hkm (anc_listed hcl _ i o ho ha hanc))
   refine .inl ⟨hw g, Oper.wp_mono (fun a2 w' ⟨k0, k1, k2, k3⟩ => ⟨g, ⟨k1, fun k hkm hl => ?_⟩, k0, fun d hd' => (by rw [hd] at hd'; cases hd'), rfl, fun _ _ _ => rfl⟩) h1⟩
   by_cases e : i = k
   ·
    subst e; exact k2
   ·
    exact k3 k hkm (Ne.symm e) (hS.2 k hkm (old i k listed e hl))
  ·
   exact ih i hi o ho listed g w ha hcl hlsz hli hS
def coverOk (ops : Array Oper) (listed0 : Array Bool) (todo : List Nat) : Bool := listed0.size == ops.size && (List.range ops.size).all fun i => listed0.getD i true || todo.contains i
def keysOk (ops : Array Oper) (listed0 : Array Bool) (keys : List Nat) : Bool := keys.all fun d => (List.range ops.size).any fun j => !listed0.getD j true && (match ops[j]? with | none => false | some o => o.dst == some d)
theorem wpAnyH_obls {γ : Type} {Sx : World → Prop} (mks : List Nat) (B : Nat → γ → World → Prop) (keys : List Nat) (vals : γ → List Value) (todo : List Nat) (g0 : γ) {fuel : Nat} {listed0 : Array Bool} {l : List Value} {df : List Deferred} {w : World}
  (hsel : Region.noSelect ops = true) (hdep : depOk md ops listed0 = true) (hcov : coverOk ops listed0 todo = true) (hkeys : keysOk ops listed0 keys = true) (hcl : closedOk md ops listed0 = true) (hmk : (mks.all fun k => decide (k < ops.size) && !listed0.getD k false) = true) (hfuel : unl ops listed0 ≤ fuel)
  (hQ : ∀ c a b w, Q (.panic c) a w → Q (.panic c) b w) (hS : Sx w)
  (hop : Obls P ops Q md Sx mks B l keys vals df todo)
  (hend : ∀ g w, Sx w → (∀ k ∈ mks, B k g w) → Q .normal ⟨(setAll l (keys.zip (vals g))).toArray, df⟩ w) : wpAnyH P md ops Q Sx fuel listed0 ⟨l.toArray, df⟩ w := by
 have hsz : listed0.size = ops.size := by
  unfold coverOk at hcov
  rw [Bool.and_eq_true, beq_iff_eq] at hcov
  exact hcov.1
 rw [List.all_eq_true] at hmk
 have hm : ∀ k ∈ mks, k < ops.size ∧ listed0.getD k false = false := fun k hk => by
  have := hmk k hk
  simpa using this
 refine wpAnyH_det (S := fun listed g w => (Sx w ∧ ∀ k ∈ mks, listed.getD k false = true → B k g w)) (A := fun g => (setAll l (keys.zip (vals g))).toArray) hsel hdep hQ (fun _ _ _ h => h.1) (fun i o ho hl listed g w ha hcl' hlsz hli hS => ?_) (fun _ g w hall h => hend g w h.1 fun k hk => h.2 k hk (hall k _ (Array.getElem?_eq_getElem (hm k hk).1))) fuel listed0 g0 ⟨l.toArray, df⟩ w (fun _ h => h) hfuel hsz (closedOk_spec hcl) ⟨hS, fun k hk h => by rw [(hm k hk).2] at h; cases h⟩ rfl (by simp [setAll_length]) (fun t ht => ?_)
 ·
  have hi : i ∈ todo := by
   unfold coverOk at hcov
   rw [Bool.and_eq_true, List.all_eq_true] at hcov
   have hlt : i < ops.size := by
    rcases Nat.lt_or_ge i ops.size with h | h
    ·
     exact h
    ·
     rw [Array.getElem?_eq_none h] at ho; cases ho
   have := hcov.2 i (List.mem_range.2 hlt)
   rw [hl] at this
   simpa using this
  exact hop.good i hi o ho listed g w ha hcl' hlsz hli hS
 ·
  show l.toArray[t]? = _
  rw [List.getElem?_toArray, List.getElem?_toArray, setAll_get]
  intro p hp
  have hpk : p.1 ∈ keys := (List.of_mem_zip hp).1
  intro e
  unfold keysOk at hkeys
  rw [List.all_eq_true] at hkeys
  have h1 := hkeys p.1 hpk
  rw [List.any_eq_true] at h1
  obtain ⟨j, hj, h2⟩ := h1
  rw [Bool.and_eq_true] at h2
  cases ho : ops[j]? with
  | none => rw [ho] at h2; simp at h2
  | some o =>
   rw [ho] at h2
   refine ht j o ho (by simpa using h2.1) ?_
   have := h2.2
   simp only [beq_iff_eq] at this
   rw [this, e]
end
end Go.Proofs.YtbfoonfbhebhfaaGreatDoor
namespace Go.Proofs.YtbfoonfbhebhfaaGreatDoor
open Go.RowKit
theorem conv_run {P : Program} {o : Oper} {a : Act} {x : Operand} {f t : TypeId} {v u : Value} {w w' : World} (ho : o.op = .convert f t x) (hx : a.eval x = v) (hc : (convert f t v).run P w = .ok u w') : (execOp a.eval o).run P w = .ok (.value u) w' := by
 unfold execOp
 simp only [ho, hx, Sem.run_bind, hc, Result.andThen_ok, Sem.run_pure]
theorem there_row {w : World} {b : Nat} {t : TypeId} {cs : Array Value} (h : w.heap[b]? = some (.cells cs t (0, 0))) : w.there b 0 cs.size := fun j hj => by
 rw [Nat.zero_add]
 refine ⟨?_, frozen_of_row _ _ _ _ _ h⟩
 rw [cell_of_row _ _ _ _ _ _ h, Array.getElem?_eq_getElem hj]
 rfl
theorem range_of_crow {w : World} {B : Nat} {l : List Nat} (h : CRow w B l) : w.rangeAt B 0 (l.map bV) := by
 intro j v hj
 rw [List.getElem?_map] at hj
 cases e : l[j]? with
 | none => rw [e] at hj; cases hj
 | some x =>
  rw [e] at hj
  have hjl : j < l.length := by
   rcases Nat.lt_or_ge j l.length with h | h
   ·
    exact h
   ·
    rw [List.getElem?_eq_none h] at e; cases e
  rw [Nat.zero_add, h.cell hjl, List.getD_eq_getElem?_getD, e]
  exact hj
def RowB (t : TypeId) (b : Nat) (l : List Nat) (w : World) : Prop := CRow w b l ∧ ∃ C fr, w.heap[b]? = some (.cells C t fr)
theorem RowB.keep {t : TypeId} {b : Nat} {l : List Nat} {w w' : World} (h : RowB t b l w) (hb : w'.heap[b]? = w.heap[b]?) : RowB t b l w' := by
 obtain ⟨⟨C, t', lo, hi, h1, h2, h3⟩, C', fr, h4⟩ := h
 exact ⟨⟨C, t', lo, hi, hb.trans h1, h2, h3⟩, C', fr, hb.trans h4⟩
theorem RowB.below {t : TypeId} {b : Nat} {l : List Nat} {w w' : World} (h : RowB t b l w) (hb : Below w.heap.size w w') : RowB t b l w' := h.keep (hb.block b (by obtain ⟨_, _, _, h4⟩ := h; exact lt_of_block h4))
theorem RowB.new (w : World) (t : TypeId) (s : ByteArray) : RowB t w.heap.size (strN s) (Lib.bytesWorld w t s) := ⟨crow_bytes w t s, _, _, Lib.bytesWorld_at_new w t s⟩
def RowZ (t : TypeId) (B0 b n : Nat) (w : World) : Prop := B0 ≤ b ∧ ∃ cs, w.heap[b]? = some (.cells cs t (0, 0)) ∧ cs.size = n
theorem RowZ.keep {t : TypeId} {B0 b n : Nat} {w w' : World} (h : RowZ t B0 b n w) (hb : w'.heap[b]? = w.heap[b]?) : RowZ t B0 b n w' := by
 obtain ⟨h0, cs, h1, h2⟩ := h
 exact ⟨h0, cs, hb.trans h1, h2⟩
theorem RowZ.below {t : TypeId} {B0 b n : Nat} {w w' : World} (h : RowZ t B0 b n w) (hb : Below w.heap.size w w') : RowZ t B0 b n w' := h.keep (hb.block b (by obtain ⟨_, _, h1, _⟩ := h; exact lt_of_block h1))
end Go.Proofs.YtbfoonfbhebhfaaGreatDoor
