/- Regions whose operations come up in any order, each with a value that is known ahead: one obligation for each operation, whatever the order. -/
import Derived.Deep.RegionHeld3
import Derived.WalkKit
namespace Go.Proofs.YtpfmfigommmjiaaDoor
open Go.RowKit
section
variable {P : Program} {ops : Array Oper} {Q : Exit → Act → World → Prop} {md : Region.Mode}
/-- an operation runs alike in two states that agree on what it looks at -/
theorem wp_agree {o : Oper} {a b : Act} {w : World} {K K2 : Act → World → Prop} (hs : ∀ cs b, o.op ≠ .select cs b) (he : ∀ x ∈ o.op.operands, a.eval x = b.eval x)
    (hQ : ∀ c w, Q (.panic c) b w → Q (.panic c) a w) (hK : ∀ v w', K2 (b.put o.dst v) w' → K (a.put o.dst v) w') (hD : ∀ d w', ¬ K2 (({ b with defers := d :: b.defers } : Act).put o.dst undef) w')
    (h : o.wp P b w K2 Q) : o.wp P a w K Q := by
  unfold Oper.wp at *
  rw [execOp_congr o hs he]
  generalize (execOp b.eval o).run P w = r at *
  cases r with
  | ok n w' =>
    cases n <;> simp only [Oper.upon] at h ⊢
    case value u => exact hK _ _ h
    case skip => exact hK _ _ h
    case defer d => exact (hD d _ h).elim
    case enter f args =>
      refine Calls.mono h fun e w'' he => ?_
      cases e with
      | returned u => exact hK _ _ he
      | panicked c => exact hQ _ _ he
      | outgrown => exact he
    case row row args => exact Rows.mono h fun u w'' he => hK _ _ he
  | halt x w' =>
    cases x <;> simp only [Oper.upon] at h ⊢
    case panic u => exact hQ _ _ h
theorem count_less (p q : Nat → Bool) (i : Nat) (hp : p i = true) (hq : q i = false) (h : ∀ j, j ≠ i → q j = p j) : ∀ n, i < n → (List.range n).countP q + 1 = (List.range n).countP p
  | 0, hi => absurd hi (Nat.not_lt_zero _)
  | n + 1, hi => by
    rw [List.range_succ, List.countP_append, List.countP_append]
    by_cases e : i = n
    · subst e
      have h1 : (List.range i).countP q = (List.range i).countP p := by
        apply List.countP_congr
        intro j hj
        rw [List.mem_range] at hj
        rw [h j (by omega)]
      rw [h1]
      simp [hp, hq]
    · have ih := count_less p q i hp hq h n (by omega)
      simp only [List.countP_cons, List.countP_nil, h n (fun x => e x.symm)]
      omega
/-- how many are not listed -/
def unl (ops : Array Oper) (listed : Array Bool) : Nat := (List.range ops.size).countP fun i => !listed.getD i true
theorem getD_set_self {l : Array Bool} {i : Nat} : (l.setIfInBounds i true).getD i true = true := by
  rw [Array.getD_eq_getD_getElem?, Array.getElem?_setIfInBounds_self]
  split <;> rfl
theorem getD_set_other {l : Array Bool} {i j : Nat} (d : Bool) (h : i ≠ j) : (l.setIfInBounds i true).getD j d = l.getD j d := by
  simp [Array.getElem?_setIfInBounds_ne h]
theorem unl_set {listed : Array Bool} {i : Nat} (hi : i < ops.size) (h : listed.getD i true = false) : unl ops (listed.setIfInBounds i true) + 1 = unl ops listed :=
  count_less _ _ i (by simp only [h, Bool.not_false]) (by simp only [getD_set_self, Bool.not_true]) (fun j hj => by simp only [getD_set_other true (Ne.symm hj)]) _ hi
/-- what an operation looks at is written by no other operation that may still come, or by one that it waits for -/
def depOk (md : Region.Mode) (ops : Array Oper) (listed0 : Array Bool) : Bool :=
  (List.range ops.size).all fun i => listed0.getD i true || match ops[i]? with
    | none => true
    | some o => (o.looksAt ops).all (fun t => (List.range ops.size).all fun j => listed0.getD j true || (match ops[j]? with
      | none => true
      | some p => p.dst != some t || o.after.any fun e => Region.binds md e && e.on == j)) && o.after.all fun e => !Region.binds md e || decide (e.on < i)
theorem depOk_spec {listed0 : Array Bool} (h : depOk md ops listed0 = true) {i : Nat} {o : Oper} (hi : ops[i]? = some o) (hl : listed0.getD i true = false) :
    (∀ t ∈ o.looksAt ops, ∀ j p, ops[j]? = some p → listed0.getD j true = false → p.dst = some t → ∃ e ∈ o.after, Region.binds md e = true ∧ e.on = j) ∧ ∀ e ∈ o.after, Region.binds md e = true → e.on < i := by
  have lt : ∀ {k : Nat} {p : Oper}, ops[k]? = some p → k < ops.size := fun hk => by
    rcases Nat.lt_or_ge _ ops.size with h | h
    · exact h
    · rw [Array.getElem?_eq_none h] at hk; cases hk
  unfold depOk at h
  rw [List.all_eq_true] at h
  have h1 := h i (List.mem_range.2 (lt hi))
  simp only [hl, hi, Bool.false_or, Bool.and_eq_true, List.all_eq_true, Array.all_eq_true_iff_forall_mem] at h1
  refine ⟨fun t ht j p hj hjl hd => ?_, fun e he hb => by have := h1.2 e he; simpa [hb] using this⟩
  have h2 := h1.1 t ht j (List.mem_range.2 (lt hj))
  simp only [hjl, hj, hd, Bool.false_or, bne_self_eq_false] at h2
  rw [Array.any_eq_true] at h2
  obtain ⟨k, hk, h3⟩ := h2
  rw [Bool.and_eq_true, beq_iff_eq] at h3
  exact ⟨_, Array.getElem_mem hk, h3.1, h3.2⟩
/-- with an operation all that it waits for is listed -/
def Closed (md : Region.Mode) (ops : Array Oper) (listed : Array Bool) : Prop := ∀ i o, ops[i]? = some o → listed.getD i false = true → ∀ e ∈ o.after, Region.binds md e = true → listed.getD e.on false = true
def closedOk (md : Region.Mode) (ops : Array Oper) (listed : Array Bool) : Bool := (List.range ops.size).all fun i => match ops[i]? with
  | none => true
  | some o => !listed.getD i false || o.after.all fun e => !Region.binds md e || listed.getD e.on false
theorem closedOk_spec {listed : Array Bool} (h : closedOk md ops listed = true) : Closed md ops listed := by
  intro i o ho hl e he hb
  unfold closedOk at h
  rw [List.all_eq_true] at h
  have hlt : i < ops.size := by
    rcases Nat.lt_or_ge i ops.size with h | h
    · exact h
    · rw [Array.getElem?_eq_none h] at ho; cases ho
  have h1 := h i (List.mem_range.2 hlt)
  simp only [ho, hl, Bool.not_true, Bool.false_or, Array.all_eq_true_iff_forall_mem] at h1
  have h2 := h1 e he
  simpa [hb] using h2
theorem Closed.set {listed : Array Bool} {i : Nat} {o : Oper} (h : Closed md ops listed) (ho : ops[i]? = some o) (ha : ∀ e ∈ o.after, Region.binds md e = true → listed.getD e.on false = true) : Closed md ops (listed.setIfInBounds i true) := by
  intro j p hp hl e he hb
  have up : ∀ k, listed.getD k false = true → (listed.setIfInBounds i true).getD k false = true := fun k hk => by
    rw [Array.getD_eq_getD_getElem?] at hk ⊢
    by_cases e : i = k
    · subst e
      rw [Array.getElem?_setIfInBounds_self]
      split
      · rfl
      · rename_i h1
        rw [Array.getElem?_eq_none (by omega)] at hk; exact hk
    · rw [Array.getElem?_setIfInBounds_ne e]; exact hk
  by_cases ej : i = j
  · subst ej
    rw [ho] at hp
    cases hp
    exact up _ (ha e he hb)
  · rw [getD_set_other false ej] at hl
    exact up _ (h j p hp hl e he hb)
/-- k is waited for by i, by one road or another -/
def anc (md : Region.Mode) (ops : Array Oper) : Nat → Nat → Nat → Bool
  | 0, _, _ => false
  | n + 1, i, k => match ops[i]? with
    | none => false
    | some o => o.after.any fun e => Region.binds md e && (e.on == k || anc md ops n e.on k)
theorem anc_listed {listed : Array Bool} (hc : Closed md ops listed) {k : Nat} : ∀ (n i : Nat) (o : Oper), ops[i]? = some o → (∀ e ∈ o.after, Region.binds md e = true → listed.getD e.on false = true) → anc md ops n i k = true → listed.getD k false = true
  | 0, _, _, _, _, h => by cases h
  | n + 1, i, o, ho, ha, h => by
    unfold anc at h
    rw [ho] at h
    simp only at h
    rw [Array.any_eq_true] at h
    obtain ⟨j, hj, h1⟩ := h
    rw [Bool.and_eq_true, Bool.or_eq_true, beq_iff_eq] at h1
    have h2 := ha _ (Array.getElem_mem hj) h1.1
    rcases h1.2 with h3 | h3
    · rw [← h3]; exact h2
    · cases hp : ops[(o.after[j]).on]? with
      | none =>
        cases n with
        | zero => cases h3
        | succ n => unfold anc at h3; rw [hp] at h3; cases h3
      | some p => exact anc_listed hc n _ p hp (hc _ p hp h2) h3
/-- one operation's obligation: it yields what the state that is known ahead has, behind it S holds -/
def Good (P : Program) (ops : Array Oper) (Q : Exit → Act → World → Prop) {γ : Type} (S : Array Bool → γ → World → Prop) (A : γ → Array Value) (df : List Deferred) (i : Nat) (o : Oper) (listed : Array Bool) (g : γ) (w : World) : Prop :=
  (Region.wanted o (yielded ops (A g)) = true ∧ o.wp P ⟨A g, df⟩ w (fun a2 w' => ∃ g', S (listed.setIfInBounds i true) g' w' ∧ a2.defers = df ∧ (∀ d, o.dst = some d → a2.tmps[d]? = (A g')[d]? ∧ d < (A g).size) ∧ (A g').size = (A g).size ∧ ∀ t, o.dst ≠ some t → (∀ j p, ops[j]? = some p → listed.getD j true = false → p.dst ≠ some t) → (A g')[t]? = (A g)[t]?) Q) ∨
  (Region.wanted o (yielded ops (A g)) = false ∧ S (listed.setIfInBounds i true) g w ∧ ∀ d, o.dst = some d → (A g)[d]? = some undef)
theorem wpAnyH_det {γ : Type} (S : Array Bool → γ → World → Prop) (A : γ → Array Value) {Sx : World → Prop} {df : List Deferred} {listed0 : Array Bool}
    (hsel : Region.noSelect ops = true) (hdep : depOk md ops listed0 = true) (hQ : ∀ c a b w, Q (.panic c) a w → Q (.panic c) b w) (hSx : ∀ listed g w, S listed g w → Sx w)
    (hop : ∀ i o, ops[i]? = some o → listed0.getD i true = false → ∀ listed g w, (∀ e ∈ o.after, Region.binds md e = true → listed.getD e.on false = true) → Closed md ops listed → listed.size = ops.size → listed.getD i true = false → S listed g w → Good P ops Q S A df i o listed g w)
    (hend : ∀ listed g w, (∀ i o, ops[i]? = some o → listed.getD i false = true) → S listed g w → Q .normal ⟨A g, df⟩ w) :
    ∀ (fuel : Nat) (listed : Array Bool) (g : γ) (a : Act) (w : World), (∀ i, listed0.getD i true = true → listed.getD i true = true) → unl ops listed ≤ fuel → listed.size = ops.size → Closed md ops listed → S listed g w → a.defers = df → a.tmps.size = (A g).size →
      (∀ t, (∀ i o, ops[i]? = some o → listed.getD i true = false → o.dst ≠ some t) → a.tmps[t]? = (A g)[t]?) → wpAnyH P md ops Q Sx fuel listed a w := by
  have lt : ∀ {k : Nat} {p : Oper}, ops[k]? = some p → k < ops.size := fun hk => by
    rcases Nat.lt_or_ge _ ops.size with h | h
    · exact h
    · rw [Array.getElem?_eq_none h] at hk; cases hk
  have fin : ∀ (listed : Array Bool) (g : γ) (a : Act) (w : World), (∀ i, listed0.getD i true = true → listed.getD i true = true) → listed.size = ops.size → Region.ready md ops listed = [] → S listed g w → a.defers = df → a.tmps.size = (A g).size →
      (∀ t, (∀ i o, ops[i]? = some o → listed.getD i true = false → o.dst ≠ some t) → a.tmps[t]? = (A g)[t]?) → Q .normal a w := by
    intro listed g a w hge hlsz hr hS hdf hsz hag
    have hall : ∀ i, ∀ o, ops[i]? = some o → listed.getD i true = true := by
      intro i
      induction i using Nat.strongRecOn with
      | _ i ih =>
        intro o ho
        cases hli : listed.getD i true with
        | true => rfl
        | false =>
          exfalso
          have hl0 : listed0.getD i true = false := by
            cases h0 : listed0.getD i true with
            | false => rfl
            | true => rw [hge i h0] at hli; cases hli
          have hm : i ∈ Region.ready md ops listed := mem_ready.2 ⟨hli, o, ho, fun e he hb => by
            have hlt := (depOk_spec hdep ho hl0).2 e he hb
            obtain ⟨p, hp⟩ : ∃ p, ops[e.on]? = some p := ⟨_, Array.getElem?_eq_getElem (Nat.lt_trans hlt (lt ho))⟩
            have h1 := ih e.on hlt p hp
            have hsz2 : e.on < listed.size := by
              rcases Nat.lt_or_ge i listed.size with h | h
              · exact Nat.lt_trans hlt h
              · rw [Array.getD_eq_getD_getElem?, Array.getElem?_eq_none h] at hli; cases hli
            rw [Array.getD_eq_getD_getElem?, Array.getElem?_eq_getElem hsz2] at h1 ⊢
            exact h1⟩
          rw [hr] at hm
          cases hm
    have ha : a = ⟨A g, df⟩ := by
      obtain ⟨ts, ds⟩ := a
      simp only at hdf hsz hag
      subst hdf
      congr 1
      apply Array.ext_getElem?
      intro t
      exact hag t (fun i o ho hl => by rw [hall i o ho] at hl; cases hl)
    rw [ha]
    refine hend listed g w (fun i o ho => ?_) hS
    have h1 := hall i o ho
    have h2 : i < listed.size := by rw [hlsz]; exact lt ho
    rw [Array.getD_eq_getD_getElem?, Array.getElem?_eq_getElem h2] at h1 ⊢
    exact h1
  intro fuel
  induction fuel with
  | zero =>
    intro listed g a w hge hu hlsz hcl hS hdf hsz hag
    have hr : Region.ready md ops listed = [] := by
      cases hr : Region.ready md ops listed with
      | nil => rfl
      | cons i r =>
        exfalso
        have hm : i ∈ Region.ready md ops listed := by rw [hr]; exact List.mem_cons_self
        obtain ⟨h1, o, ho, _⟩ := mem_ready.1 hm
        have := unl_set (lt ho) h1
        omega
    exact ⟨hr, fin listed g a w hge hlsz hr hS hdf hsz hag⟩
  | succ fuel ih =>
    intro listed g a w hge hu hlsz hcl hS hdf hsz hag
    refine ⟨fun hr => fin listed g a w hge hlsz hr hS hdf hsz hag, fun i hi => ?_⟩
    obtain ⟨hli, o, ho, haft⟩ := mem_ready.1 hi
    have hl0 : listed0.getD i true = false := by
      cases h0 : listed0.getD i true with
      | false => rfl
      | true => rw [hge i h0] at hli; cases hli
    have hd := (depOk_spec hdep ho hl0).1
    have hlook : ∀ t ∈ o.looksAt ops, a.tmps[t]? = (A g)[t]? := fun t ht => hag t fun j p hj hjl hdst => by
      have hj0 : listed0.getD j true = false := by
        cases h0 : listed0.getD j true with
        | false => rfl
        | true => rw [hge j h0] at hjl; cases hjl
      obtain ⟨e, he, hb, hon⟩ := hd t ht j p hj hj0 hdst
      have h1 := haft e he hb
      rw [hon] at h1
      rw [Array.getD_eq_getD_getElem?] at h1 hjl
      cases hx : listed[j]? with
      | none => rw [hx] at h1; cases h1
      | some b => rw [hx] at h1 hjl; simp only [Option.getD_some] at h1 hjl; rw [h1] at hjl; cases hjl
    have heval : ∀ x ∈ o.op.operands, a.eval x = (Act.mk (A g) df).eval x := fun x hx => by
      cases x with
      | tmp t =>
        have := hlook t (by unfold Oper.looksAt; exact List.mem_append_left _ (List.mem_filterMap.2 ⟨.tmp t, by simpa using hx, rfl⟩))
        simp only [Act.eval, Array.getD_eq_getD_getElem?, this]
      | _ => rfl
    have hwant : Region.wanted o (yielded ops a.tmps) = Region.wanted o (yielded ops (A g)) := by
      unfold Region.wanted
      cases hg : o.guard with
      | none => rfl
      | some gw =>
        obtain ⟨k, want⟩ := gw
        simp only
        have : yielded ops a.tmps k = yielded ops (A g) k := by
          unfold yielded
          cases hk : (ops[k]?).bind (·.dst) with
          | none => rfl
          | some t =>
            have := hlook t (by unfold Oper.looksAt; rw [hg]; simp only [hk]; exact List.mem_append_right _ (by simp))
            simp only [Option.bind_some, this]
        rw [this]
    have next : ∀ g' a' w', S (listed.setIfInBounds i true) g' w' → a'.defers = df → a'.tmps.size = (A g').size → (∀ t, (∀ j p, ops[j]? = some p → (listed.setIfInBounds i true).getD j true = false → p.dst ≠ some t) → a'.tmps[t]? = (A g')[t]?) → Sx w' ∧ wpAnyH P md ops Q Sx fuel (listed.setIfInBounds i true) a' w' := by
      intro g' a' w' h1 h2 h3 h4
      refine ⟨hSx _ _ _ h1, ih _ g' a' w' (fun j hj => ?_) ?_ (by rw [Array.size_setIfInBounds]; exact hlsz) (hcl.set ho haft) h1 h2 h3 h4⟩
      · by_cases e : i = j
        · subst e; exact getD_set_self
        · rw [getD_set_other true e]; exact hge j hj
      · have := unl_set (lt ho) hli
        omega
    have agree : ∀ g' v, (∀ d, o.dst = some d → (some v = (A g')[d]?) ∧ d < (A g).size) → (A g').size = (A g).size → (∀ t, o.dst ≠ some t → (∀ j p, ops[j]? = some p → listed.getD j true = false → p.dst ≠ some t) → (A g')[t]? = (A g)[t]?) →
        ∀ t, (∀ j p, ops[j]? = some p → (listed.setIfInBounds i true).getD j true = false → p.dst ≠ some t) → (a.put o.dst v).tmps[t]? = (A g')[t]? := by
      intro g' v h1 _ h3 t ht
      by_cases e : o.dst = some t
      · have h5 := h1 t e
        rw [← h5.1]
        simp only [Act.put, e, Array.getElem?_setIfInBounds_self, hsz]
        rw [if_pos h5.2]
      · have h7 : ∀ j p, ops[j]? = some p → listed.getD j true = false → p.dst ≠ some t := fun j p hj hjl => by
          by_cases ej : i = j
          · subst ej; rw [ho] at hj; cases hj; exact e
          · exact ht j p hj (by rw [getD_set_other true ej]; exact hjl)
        have h6 : a.tmps[t]? = (A g)[t]? := hag t h7
        rw [h3 t e h7, ← h6]
        cases hdst : o.dst with
        | none => rfl
        | some d =>
          have : d ≠ t := fun x => e (by rw [hdst, x])
          simp [Act.put, Array.getElem?_setIfInBounds_ne this]
    have size_put : ∀ v, (a.put o.dst v).tmps.size = a.tmps.size := fun v => by cases o.dst <;> simp [Act.put]
    have defers_put : ∀ v, (a.put o.dst v).defers = a.defers := fun v => by cases o.dst <;> rfl
    unfold wpOp
    simp only [ho]
    rcases hop i o ho hl0 listed g w haft hcl hlsz hli hS with ⟨hw, hwp⟩ | ⟨hw, hS', hu2⟩
    · rw [hwant, hw, if_pos rfl]
      refine .inl (wp_agree (Region.noSelect_spec hsel i o · · ho) heval (fun c w => hQ c _ _ w) (fun v w' hk => ?_) (fun d w' hk => ?_) hwp)
      · obtain ⟨g', k1, _, k3, k4, k5⟩ := hk
        refine next g' _ w' k1 (by rw [defers_put, hdf]) (by rw [size_put, hsz, k4]) (agree g' v (fun d hd' => ?_) k4 k5)
        have k6 := k3 d hd'
        refine ⟨?_, k6.2⟩
        rw [← k6.1]
        simp only [Act.put, hd', Array.getElem?_setIfInBounds_self]
        rw [if_pos k6.2]
      · obtain ⟨g', _, k2, _⟩ := hk
        have : (({ (Act.mk (A g) df) with defers := d :: df } : Act).put o.dst undef).defers = d :: df := by cases o.dst <;> rfl
        rw [this] at k2
        exact absurd (congrArg List.length k2) (by simp)
    · rw [hwant, hw]
      simp only [Bool.false_eq_true, if_false]
      refine next g _ w hS' (by rw [defers_put, hdf]) (by rw [size_put, hsz]) (agree g undef (fun d hd' => ⟨(hu2 d hd').symm, ?_⟩) rfl (fun _ _ _ => rfl))
      have := hu2 d hd'
      rcases Nat.lt_or_ge d (A g).size with h | h
      · exact h
      · rw [Array.getElem?_eq_none h] at this; cases this
end
end Go.Proofs.YtpfmfigommmjiaaDoor
