/- Regions whose operations come up in any order: obligations for an operation of each kind; one of them may make a row whose place is not known ahead. -/
import Derived.Test.YtpfmfigommmjiaaDoorDet
import Derived.Test.YtpfmfigommmjiaaDoorFtC
namespace Go.Proofs.YtpfmfigommmjiaaDoor
open Go.RowKit
def setAll (l : List Value) (vs : List (Nat × Value)) : List Value := vs.foldl (fun l p => l.set p.1 p.2) l
theorem setAll_length : ∀ (vs : List (Nat × Value)) (l : List Value), (setAll l vs).length = l.length
  | [], _ => rfl
  | p :: vs, l => by
    show (setAll (l.set p.1 p.2) vs).length = _
    rw [setAll_length vs, List.length_set]
theorem setAll_get : ∀ (vs : List (Nat × Value)) (l : List Value) (t : Nat), (∀ p ∈ vs, p.1 ≠ t) → (setAll l vs)[t]? = l[t]?
  | [], _, _, _ => rfl
  | p :: vs, l, t, h => by
    show (setAll (l.set p.1 p.2) vs)[t]? = _
    rw [setAll_get vs _ t (fun q hq => h q (List.mem_cons_of_mem _ hq)), List.getElem?_set_ne (h p List.mem_cons_self)]
theorem setAll_other : ∀ (vs : List (Nat × Value)) (l m : List Value) (d : Nat), (∀ t, t ≠ d → l[t]? = m[t]?) → l.length = m.length → ∀ t, t ≠ d → (setAll l vs)[t]? = (setAll m vs)[t]?
  | [], _, _, _, h, _, t, ht => h t ht
  | p :: vs, l, m, d, h, hl, t, ht => by
    show (setAll (l.set p.1 p.2) vs)[t]? = (setAll (m.set p.1 p.2) vs)[t]?
    refine setAll_other vs _ _ d (fun t ht => ?_) (by rw [List.length_set, List.length_set, hl]) t ht
    rw [List.getElem?_set, List.getElem?_set, h t ht, hl]
theorem setAll_first (l : List Value) (d : Nat) (a b : Value) (ks : List Nat) (vs : List Value) (t : Nat) (ht : t ≠ d) : (setAll l ((d :: ks).zip (a :: vs)))[t]? = (setAll l ((d :: ks).zip (b :: vs)))[t]? :=
  setAll_other (ks.zip vs) (l.set d a) (l.set d b) d (fun t ht => by rw [List.getElem?_set_ne (Ne.symm ht), List.getElem?_set_ne (Ne.symm ht)]) (by rw [List.length_set, List.length_set]) t ht
section
variable {P : Program} {ops : Array Oper} {Q : Exit → Act → World → Prop} {md : Region.Mode}
/-- these slots are filled by operations that wait for i -/
def exOk (md : Region.Mode) (ops : Array Oper) (i : Nat) (ex : List Nat) : Bool := ex.all fun t => (List.range ops.size).any fun j => anc md ops ops.size j i && (match ops[j]? with | none => false | some p => p.dst == some t)
/-- two fillings that differ at some slots alone -/
inductive Differ (ex : List Nat) : List (Nat × Value) → List (Nat × Value) → Prop
  | nil : Differ ex [] []
  | same {k : Nat} {a : Value} {vs us : List (Nat × Value)} : Differ ex vs us → Differ ex ((k, a) :: vs) ((k, a) :: us)
  | diff {k : Nat} {a b : Value} {vs us : List (Nat × Value)} : k ∈ ex → Differ ex vs us → Differ ex ((k, a) :: vs) ((k, b) :: us)
theorem Differ.get {ex : List Nat} {vs us : List (Nat × Value)} (h : Differ ex vs us) : ∀ (l m : List Value), l.length = m.length → (∀ t, t ∉ ex → l[t]? = m[t]?) → ∀ t, t ∉ ex → (setAll l vs)[t]? = (setAll m us)[t]? := by
  induction h with
  | nil => intro l m _ h t ht; exact h t ht
  | @same k a vs us _ ih =>
    intro l m hl h t ht
    refine ih (l.set k a) (m.set k a) (by rw [List.length_set, List.length_set, hl]) (fun t ht => ?_) t ht
    rw [List.getElem?_set, List.getElem?_set, h t ht, hl]
  | @diff k a b vs us hk _ ih =>
    intro l m hl h t ht
    refine ih (l.set k a) (m.set k b) (by rw [List.length_set, List.length_set, hl]) (fun t ht => ?_) t ht
    have : k ≠ t := fun e => ht (e ▸ hk)
    rw [List.getElem?_set_ne this, List.getElem?_set_ne this, h t ht]
/-- the obligations, one for each operation that has not come up yet; those of the list mks turn the world: B tells what holds behind each -/
inductive Obls (P : Program) (ops : Array Oper) (Q : Exit → Act → World → Prop) (md : Region.Mode) {γ : Type} (Sx : World → Prop) (mks : List Nat) (B : Nat → γ → World → Prop) (l : List Value) (keys : List Nat) (vals : γ → List Value) (df : List Deferred) : List Nat → Prop
  | nil : Obls P ops Q md Sx mks B l keys vals df []
  | val {i : Nat} {r : List Nat} (o : Oper) (d : Nat) (v : γ → Value) (ho : ops[i]? = some o) (hk : i ∉ mks) (hd : o.dst = some d) (hw : ∀ g, Region.wanted o (yielded ops (setAll l (keys.zip (vals g))).toArray) = true)
      (hv : ∀ g w, Sx w → (∀ k ∈ mks, anc md ops ops.size i k = true → B k g w) → (execOp (Act.mk (setAll l (keys.zip (vals g))).toArray df).eval o).run P w = .ok (.value (v g)) w)
      (hA : ∀ g, (setAll l (keys.zip (vals g)))[d]? = some (v g)) (t : Obls P ops Q md Sx mks B l keys vals df r) : Obls P ops Q md Sx mks B l keys vals df (i :: r)
  | call {i : Nat} {r : List Nat} (o : Oper) (d : Nat) (v : Value) (f : FuncId) (args : Array Value) (ho : ops[i]? = some o) (hk : i ∉ mks) (hd : o.dst = some d) (hw : ∀ g, Region.wanted o (yielded ops (setAll l (keys.zip (vals g))).toArray) = true)
      (hv : ∀ g w, Sx w → (execOp (Act.mk (setAll l (keys.zip (vals g))).toArray df).eval o).run P w = .ok (.enter f args) w) (hc : ∀ g w, Sx w → Calls P f args w fun e w' => e = .returned v ∧ Sx w' ∧ ∀ k ∈ mks, B k g w → B k g w')
      (hA : ∀ g, (setAll l (keys.zip (vals g)))[d]? = some v) (t : Obls P ops Q md Sx mks B l keys vals df r) : Obls P ops Q md Sx mks B l keys vals df (i :: r)
  | callB {i : Nat} {r : List Nat} (o : Oper) (d : Nat) (v : γ → Value) (f : FuncId) (args : γ → Array Value) (ho : ops[i]? = some o) (hk : i ∉ mks) (hd : o.dst = some d) (hw : ∀ g, Region.wanted o (yielded ops (setAll l (keys.zip (vals g))).toArray) = true)
      (hv : ∀ g w, Sx w → (execOp (Act.mk (setAll l (keys.zip (vals g))).toArray df).eval o).run P w = .ok (.enter f (args g)) w) (hc : ∀ g w, Sx w → (∀ k ∈ mks, anc md ops ops.size i k = true → B k g w) → Calls P f (args g) w fun e w' => e = .returned (v g) ∧ Sx w' ∧ ∀ k ∈ mks, B k g w → B k g w')
      (hA : ∀ g, (setAll l (keys.zip (vals g)))[d]? = some (v g)) (t : Obls P ops Q md Sx mks B l keys vals df r) : Obls P ops Q md Sx mks B l keys vals df (i :: r)
  | nt {i : Nat} {r : List Nat} (o : Oper) (d : Nat) (ho : ops[i]? = some o) (hk : i ∉ mks) (hd : o.dst = some d) (hw : ∀ g, Region.wanted o (yielded ops (setAll l (keys.zip (vals g))).toArray) = false)
      (hA : ∀ g, (setAll l (keys.zip (vals g)))[d]? = some undef) (t : Obls P ops Q md Sx mks B l keys vals df r) : Obls P ops Q md Sx mks B l keys vals df (i :: r)
  | mk {i : Nat} {r : List Nat} (o : Oper) (d : Nat) (ex : List Nat) (hex : exOk md ops i ex = true) (ho : ops[i]? = some o) (hd : o.dst = some d) (hw : ∀ g, Region.wanted o (yielded ops (setAll l (keys.zip (vals g))).toArray) = true)
      (hv : ∀ g w, Sx w → (∀ k ∈ mks, anc md ops ops.size i k = true → B k g w) → ∃ g' v w', (execOp (Act.mk (setAll l (keys.zip (vals g))).toArray df).eval o).run P w = .ok (.value v) w' ∧ (setAll l (keys.zip (vals g')))[d]? = some v ∧ Sx w' ∧ B i g' w' ∧ (∀ k ∈ mks, k ≠ i → anc md ops ops.size k i = false → B k g w → B k g' w') ∧ ∀ t, t ∉ d :: ex → (setAll l (keys.zip (vals g')))[t]? = (setAll l (keys.zip (vals g)))[t]?)
      (t : Obls P ops Q md Sx mks B l keys vals df r) : Obls P ops Q md Sx mks B l keys vals df (i :: r)
  | callM {i : Nat} {r : List Nat} (o : Oper) (d : Nat) (ex : List Nat) (f : FuncId) (args : Array Value) (hex : exOk md ops i ex = true) (ho : ops[i]? = some o) (hd : o.dst = some d) (hw : ∀ g, Region.wanted o (yielded ops (setAll l (keys.zip (vals g))).toArray) = true)
      (he : ∀ g w, Sx w → (execOp (Act.mk (setAll l (keys.zip (vals g))).toArray df).eval o).run P w = .ok (.enter f args) w)
      (hc : ∀ g w, Sx w → (∀ k ∈ mks, anc md ops ops.size i k = true → B k g w) → Calls P f args w fun e w' => ∃ g' v, e = .returned v ∧ (setAll l (keys.zip (vals g')))[d]? = some v ∧ Sx w' ∧ B i g' w' ∧ (∀ k ∈ mks, k ≠ i → anc md ops ops.size k i = false → B k g w → B k g' w') ∧ ∀ t, t ∉ d :: ex → (setAll l (keys.zip (vals g')))[t]? = (setAll l (keys.zip (vals g)))[t]?)
      (t : Obls P ops Q md Sx mks B l keys vals df r) : Obls P ops Q md Sx mks B l keys vals df (i :: r)
  | eff {i : Nat} {r : List Nat} (o : Oper) (ho : ops[i]? = some o) (hd : o.dst = none) (hw : ∀ g, Region.wanted o (yielded ops (setAll l (keys.zip (vals g))).toArray) = true)
      (hv : ∀ g w, Sx w → (∀ k ∈ mks, anc md ops ops.size i k = true → B k g w) → o.wp P ⟨(setAll l (keys.zip (vals g))).toArray, df⟩ w (fun a' w' => a'.defers = df ∧ Sx w' ∧ B i g w' ∧ ∀ k ∈ mks, k ≠ i → B k g w → B k g w') Q)
      (t : Obls P ops Q md Sx mks B l keys vals df r) : Obls P ops Q md Sx mks B l keys vals df (i :: r)
/-- what one operation is asked that does not turn the world -/
def GoodP (P : Program) (ops : Array Oper) (Q : Exit → Act → World → Prop) {γ : Type} (Sx : World → Prop) (mks : List Nat) (B : Nat → γ → World → Prop) (A : Array Value) (df : List Deferred) (g : γ) (o : Oper) (w : World) : Prop :=
  (Region.wanted o (yielded ops A) = true ∧ o.wp P ⟨A, df⟩ w (fun a2 w' => Sx w' ∧ (∀ k ∈ mks, B k g w → B k g w') ∧ a2.defers = df ∧ ∀ d, o.dst = some d → a2.tmps[d]? = A[d]? ∧ d < A.size) Q) ∨
  (Region.wanted o (yielded ops A) = false ∧ ∀ d, o.dst = some d → A[d]? = some undef)
theorem good_val {γ : Type} {Sx : World → Prop} {mks : List Nat} {B : Nat → γ → World → Prop} {l : List Value} {df : List Deferred} {g : γ} {o : Oper} {w : World} {d : Nat} (v : Value) (hd : o.dst = some d) (hw : Region.wanted o (yielded ops l.toArray) = true)
    (hv : (execOp (Act.mk l.toArray df).eval o).run P w = .ok (.value v) w) (hA : l[d]? = some v) (hS : Sx w) : GoodP P ops Q Sx mks B l.toArray df g o w := by
  have hlt : d < l.length := by
    rcases Nat.lt_or_ge d l.length with h | h
    · exact h
    · rw [List.getElem?_eq_none h] at hA; cases hA
  refine .inl ⟨hw, ?_⟩
  unfold Oper.wp
  rw [hv]
  refine ⟨hS, fun _ _ h => h, by rw [hd]; rfl, fun d' hd' => ?_⟩
  rw [hd] at hd'
  cases hd'
  rw [hd]
  refine ⟨?_, by simpa using hlt⟩
  refine Eq.trans ?_ ((List.getElem?_toArray (xs := l) (i := d)).trans hA).symm
  show (l.toArray.setIfInBounds d v)[d]? = some v
  rw [Array.getElem?_setIfInBounds_self, if_pos (by simpa using hlt)]
theorem good_not {γ : Type} {Sx : World → Prop} {mks : List Nat} {B : Nat → γ → World → Prop} {l : List Value} {df : List Deferred} {g : γ} {o : Oper} {w : World} {d : Nat} (hd : o.dst = some d) (hw : Region.wanted o (yielded ops l.toArray) = false) (hA : l[d]? = some undef) : GoodP P ops Q Sx mks B l.toArray df g o w :=
  .inr ⟨hw, fun d' hd' => by rw [hd] at hd'; cases hd'; simpa using hA⟩
theorem good_call {γ : Type} {Sx : World → Prop} {mks : List Nat} {B : Nat → γ → World → Prop} {l : List Value} {df : List Deferred} {g : γ} {o : Oper} {w : World} {d : Nat} {f : FuncId} {args : Array Value} (v : Value) (hd : o.dst = some d) (hw : Region.wanted o (yielded ops l.toArray) = true)
    (hr : (execOp (Act.mk l.toArray df).eval o).run P w = .ok (.enter f args) w) (hc : Calls P f args w fun e w' => e = .returned v ∧ Sx w' ∧ ∀ k ∈ mks, B k g w → B k g w') (hA : l[d]? = some v) : GoodP P ops Q Sx mks B l.toArray df g o w := by
  have hlt : d < l.length := by
    rcases Nat.lt_or_ge d l.length with h | h
    · exact h
    · rw [List.getElem?_eq_none h] at hA; cases hA
  refine .inl ⟨hw, ?_⟩
  unfold Oper.wp
  rw [hr]
  refine Calls.mono hc ?_
  rintro e w' ⟨rfl, h1, h2⟩
  refine ⟨h1, h2, by rw [hd]; rfl, fun d' hd' => ?_⟩
  rw [hd] at hd'
  cases hd'
  rw [hd]
  refine ⟨?_, by simpa using hlt⟩
  refine Eq.trans ?_ ((List.getElem?_toArray (xs := l) (i := d)).trans hA).symm
  show (l.toArray.setIfInBounds d v)[d]? = some v
  rw [Array.getElem?_setIfInBounds_self, if_pos (by simpa using hlt)]
theorem Obls.good {γ : Type} {Sx : World → Prop} {mks : List Nat} {B : Nat → γ → World → Prop} {l : List Value} {keys : List Nat} {vals : γ → List Value} {df : List Deferred} {todo : List Nat} (h : Obls P ops Q md Sx mks B l keys vals df todo) :
    ∀ i ∈ todo, ∀ o, ops[i]? = some o → ∀ (listed : Array Bool) (g : γ) (w : World), (∀ e ∈ o.after, Region.binds md e = true → listed.getD e.on false = true) → Closed md ops listed → listed.size = ops.size → listed.getD i true = false → (Sx w ∧ ∀ k ∈ mks, listed.getD k false = true → B k g w) → Good P ops Q (fun listed g w => Sx w ∧ ∀ k ∈ mks, listed.getD k false = true → B k g w) (fun g => (setAll l (keys.zip (vals g))).toArray) df i o listed g w := by
  have old : ∀ (i k : Nat) (listed : Array Bool), i ≠ k → (listed.setIfInBounds i true).getD k false = true → listed.getD k false = true := fun i k listed hk h => by
    rwa [getD_set_other false hk] at h
  have plain : ∀ (i : Nat) (o : Oper) (_ : ops[i]? = some o) (hk : i ∉ mks) (listed : Array Bool) (g : γ) (w : World), (∀ e ∈ o.after, Region.binds md e = true → listed.getD e.on false = true) → Closed md ops listed → (Sx w ∧ ∀ k ∈ mks, listed.getD k false = true → B k g w) →
      ((∀ k ∈ mks, anc md ops ops.size i k = true → B k g w) → GoodP P ops Q Sx mks B (setAll l (keys.zip (vals g))).toArray df g o w) → Good P ops Q (fun listed g w => Sx w ∧ ∀ k ∈ mks, listed.getD k false = true → B k g w) (fun g => (setAll l (keys.zip (vals g))).toArray) df i o listed g w := by
    intro i o ho hk listed g w ha hcl hS hx
    have hset : ∀ w', (∀ k ∈ mks, B k g w → B k g w') → ∀ k ∈ mks, (listed.setIfInBounds i true).getD k false = true → B k g w' := fun w' hb k hkm h =>
      hb k hkm (hS.2 k hkm (old i k listed (fun e => hk (e ▸ hkm)) h))
    rcases hx (fun k hkm hanc => hS.2 k hkm (anc_listed hcl _ i o ho ha hanc)) with ⟨h1, h2⟩ | ⟨h1, h2⟩
    · exact .inl ⟨h1, Oper.wp_mono (fun a2 w' ⟨k1, k2, k3, k4⟩ => ⟨g, ⟨k1, hset w' k2⟩, k3, k4, rfl, fun _ _ _ => rfl⟩) h2⟩
    · exact .inr ⟨h1, ⟨hS.1, hset w fun _ _ h => h⟩, h2⟩
  induction h with
  | nil => intro i hi; cases hi
  | @val j r o' d v ho' hk hd hw hv hA _ ih =>
    intro i hi o ho listed g w ha hcl hlsz hli hS
    rcases List.mem_cons.1 hi with rfl | hi
    · have ee : o = o' := by rw [ho] at ho'; injection ho'
      subst ee
      exact plain i o ho hk listed g w ha hcl hS fun hB => good_val (v g) hd (hw g) (hv g w hS.1 hB) (hA g) hS.1
    · exact ih i hi o ho listed g w ha hcl hlsz hli hS
  | @call j r o' d v f args ho' hk hd hw hv hc hA _ ih =>
    intro i hi o ho listed g w ha hcl hlsz hli hS
    rcases List.mem_cons.1 hi with rfl | hi
    · have ee : o = o' := by rw [ho] at ho'; injection ho'
      subst ee
      exact plain i o ho hk listed g w ha hcl hS fun _ => good_call v hd (hw g) (hv g w hS.1) (hc g w hS.1) (hA g)
    · exact ih i hi o ho listed g w ha hcl hlsz hli hS
  | @callB j r o' d v f args ho' hk hd hw hv hc hA _ ih =>
    intro i hi o ho listed g w ha hcl hlsz hli hS
    rcases List.mem_cons.1 hi with rfl | hi
    · have ee : o = o' := by rw [ho] at ho'; injection ho'
      subst ee
      exact plain i o ho hk listed g w ha hcl hS fun hB => good_call (v g) hd (hw g) (hv g w hS.1) (hc g w hS.1 hB) (hA g)
    · exact ih i hi o ho listed g w ha hcl hlsz hli hS
  | @nt j r o' d ho' hk hd hw hA _ ih =>
    intro i hi o ho listed g w ha hcl hlsz hli hS
    rcases List.mem_cons.1 hi with rfl | hi
    · have ee : o = o' := by rw [ho] at ho'; injection ho'
      subst ee
      exact plain i o ho hk listed g w ha hcl hS fun _ => good_not hd (hw g) (hA g)
    · exact ih i hi o ho listed g w ha hcl hlsz hli hS
  | @mk j r o' d ex hex ho' hd hw hv _ ih =>
    intro i hi o ho listed g w ha hcl hlsz hli hS
    rcases List.mem_cons.1 hi with rfl | hi
    · have ee : o = o' := by rw [ho] at ho'; injection ho'
      subst ee
      obtain ⟨g', v, w', h1, h2, h3, h4, h5, h6⟩ := hv g w hS.1 (fun k hkm hanc => hS.2 k hkm (anc_listed hcl _ i o ho ha hanc))
      have hlt : d < (setAll l (keys.zip (vals g))).length := by
        rw [setAll_length]
        rcases Nat.lt_or_ge d l.length with h | h
        · exact h
        · rw [List.getElem?_eq_none (by rw [setAll_length]; exact h)] at h2; cases h2
      refine .inl ⟨hw g, ?_⟩
      unfold Oper.wp
      simp only
      rw [h1]
      refine ⟨g', ⟨h3, fun k hkm hl => ?_⟩, by rw [hd]; rfl, fun d' hd' => ?_, by simp [setAll_length], fun t ht hun => ?_⟩
      · by_cases e : i = k
        · subst e; exact h4
        · have hkl := old i k listed e hl
          refine h5 k hkm (Ne.symm e) ?_ (hS.2 k hkm hkl)
          cases hx : anc md ops ops.size k i with
          | false => rfl
          | true =>
            exfalso
            have hksz : k < ops.size := by
              rcases Nat.lt_or_ge k listed.size with h | h
              · omega
              · rw [Array.getD_eq_getD_getElem?, Array.getElem?_eq_none h] at hkl; cases hkl
            have hp := Array.getElem?_eq_getElem hksz
            have h11 := anc_listed hcl _ k _ hp (hcl k _ hp hkl) hx
            rw [Array.getD_eq_getD_getElem?] at h11 hli
            cases hx : listed[i]? with
            | none => rw [hx] at h11; cases h11
            | some b => rw [hx] at h11 hli; simp only [Option.getD_some] at h11 hli; rw [h11] at hli; cases hli
      · rw [hd] at hd'
        cases hd'
        rw [hd]
        refine ⟨?_, by simpa using hlt⟩
        refine Eq.trans ?_ ((List.getElem?_toArray (xs := setAll l (keys.zip (vals g'))) (i := d)).trans h2).symm
        show ((setAll l (keys.zip (vals g))).toArray.setIfInBounds d v)[d]? = some v
        rw [Array.getElem?_setIfInBounds_self, if_pos (by simpa using hlt)]
      · have : t ∉ d :: ex := fun e => by
          rcases List.mem_cons.1 e with e | e
          · exact ht (by rw [hd, e])
          · unfold exOk at hex
            rw [List.all_eq_true] at hex
            have h7 := hex t e
            rw [List.any_eq_true] at h7
            obtain ⟨j, hj, h8⟩ := h7
            rw [Bool.and_eq_true] at h8
            rw [List.mem_range] at hj
            cases hp : ops[j]? with
            | none => rw [hp] at h8; simp at h8
            | some p =>
              rw [hp] at h8
              have h9 := h8.2
              simp only [beq_iff_eq] at h9
              refine hun j p hp ?_ h9
              cases hjl : listed.getD j true with
              | false => rfl
              | true =>
                exfalso
                have h10 : listed.getD j false = true := by
                  rw [Array.getD_eq_getD_getElem?, Array.getElem?_eq_getElem (by omega)] at hjl ⊢
                  exact hjl
                have h11 := anc_listed hcl _ j p hp (hcl j p hp h10) h8.1
                rw [Array.getD_eq_getD_getElem?] at h11 hli
                cases hx : listed[i]? with
                | none => rw [hx] at h11; cases h11
                | some b => rw [hx] at h11 hli; simp only [Option.getD_some] at h11 hli; rw [h11] at hli; cases hli
        simpa using h6 t this
    · exact ih i hi o ho listed g w ha hcl hlsz hli hS
  | @callM j r o' d ex f args hex ho' hd hw he hc _ ih =>
    intro i hi o ho listed g w ha hcl hlsz hli hS
    rcases List.mem_cons.1 hi with rfl | hi
    · have ee : o = o' := by rw [ho] at ho'; injection ho'
      subst ee
      refine .inl ⟨hw g, ?_⟩
      unfold Oper.wp
      rw [he g w hS.1]
      refine Calls.mono (hc g w hS.1 (fun k hkm hanc => hS.2 k hkm (anc_listed hcl _ i o ho ha hanc))) ?_
      rintro e w' ⟨g', v, rfl, h2, h3, h4, h5, h6⟩
      have hlt : d < (setAll l (keys.zip (vals g))).length := by
        rw [setAll_length]
        rcases Nat.lt_or_ge d l.length with h | h
        · exact h
        · rw [List.getElem?_eq_none (by rw [setAll_length]; exact h)] at h2; cases h2
      refine ⟨g', ⟨h3, fun k hkm hl => ?_⟩, by rw [hd]; rfl, fun d' hd' => ?_, by simp [setAll_length], fun t ht hun => ?_⟩
      · by_cases e : i = k
        · subst e; exact h4
        · have hkl := old i k listed e hl
          refine h5 k hkm (Ne.symm e) ?_ (hS.2 k hkm hkl)
          cases hx : anc md ops ops.size k i with
          | false => rfl
          | true =>
            exfalso
            have hksz : k < ops.size := by
              rcases Nat.lt_or_ge k listed.size with h | h
              · omega
              · rw [Array.getD_eq_getD_getElem?, Array.getElem?_eq_none h] at hkl; cases hkl
            have hp := Array.getElem?_eq_getElem hksz
            have h11 := anc_listed hcl _ k _ hp (hcl k _ hp hkl) hx
            rw [Array.getD_eq_getD_getElem?] at h11 hli
            cases hx : listed[i]? with
            | none => rw [hx] at h11; cases h11
            | some b => rw [hx] at h11 hli; simp only [Option.getD_some] at h11 hli; rw [h11] at hli; cases hli
      · rw [hd] at hd'
        cases hd'
        rw [hd]
        refine ⟨?_, by simpa using hlt⟩
        refine Eq.trans ?_ ((List.getElem?_toArray (xs := setAll l (keys.zip (vals g'))) (i := d)).trans h2).symm
        show ((setAll l (keys.zip (vals g))).toArray.setIfInBounds d v)[d]? = some v
        rw [Array.getElem?_setIfInBounds_self, if_pos (by simpa using hlt)]
      · have : t ∉ d :: ex := fun e => by
          rcases List.mem_cons.1 e with e | e
          · exact ht (by rw [hd, e])
          · unfold exOk at hex
            rw [List.all_eq_true] at hex
            have h7 := hex t e
            rw [List.any_eq_true] at h7
            obtain ⟨j, hj, h8⟩ := h7
            rw [Bool.and_eq_true] at h8
            rw [List.mem_range] at hj
            cases hp : ops[j]? with
            | none => rw [hp] at h8; simp at h8
            | some p =>
              rw [hp] at h8
              have h9 := h8.2
              simp only [beq_iff_eq] at h9
              refine hun j p hp ?_ h9
              cases hjl : listed.getD j true with
              | false => rfl
              | true =>
                exfalso
                have h10 : listed.getD j false = true := by
                  rw [Array.getD_eq_getD_getElem?, Array.getElem?_eq_getElem (by omega)] at hjl ⊢
                  exact hjl
                have h11 := anc_listed hcl _ j p hp (hcl j p hp h10) h8.1
                rw [Array.getD_eq_getD_getElem?] at h11 hli
                cases hx : listed[i]? with
                | none => rw [hx] at h11; cases h11
                | some b => rw [hx] at h11 hli; simp only [Option.getD_some] at h11 hli; rw [h11] at hli; cases hli
        simpa using h6 t this
    · exact ih i hi o ho listed g w ha hcl hlsz hli hS
  | @eff j r o' ho' hd hw hv _ ih =>
    intro i hi o ho listed g w ha hcl hlsz hli hS
    rcases List.mem_cons.1 hi with rfl | hi
    · have ee : o = o' := by rw [ho] at ho'; injection ho'
      subst ee
      have h1 := hv g w hS.1 (fun k hkm hanc => hS.2 k hkm (anc_listed hcl _ i o ho ha hanc))
      refine .inl ⟨hw g, Oper.wp_mono (fun a2 w' ⟨k0, k1, k2, k3⟩ => ⟨g, ⟨k1, fun k hkm hl => ?_⟩, k0, fun d hd' => (by rw [hd] at hd'; cases hd'), rfl, fun _ _ _ => rfl⟩) h1⟩
      by_cases e : i = k
      · subst e; exact k2
      · exact k3 k hkm (Ne.symm e) (hS.2 k hkm (old i k listed e hl))
    · exact ih i hi o ho listed g w ha hcl hlsz hli hS
/-- all that have not come up stand in a list -/
def coverOk (ops : Array Oper) (listed0 : Array Bool) (todo : List Nat) : Bool := listed0.size == ops.size && (List.range ops.size).all fun i => listed0.getD i true || todo.contains i
/-- the numbers of the slots that are filled are those of operations that have not come up -/
def keysOk (ops : Array Oper) (listed0 : Array Bool) (keys : List Nat) : Bool := keys.all fun d => (List.range ops.size).any fun j => !listed0.getD j true && (match ops[j]? with | none => false | some o => o.dst == some d)
theorem wpAnyH_obls {γ : Type} {Sx : World → Prop} (mks : List Nat) (B : Nat → γ → World → Prop) (keys : List Nat) (vals : γ → List Value) (todo : List Nat) (g0 : γ) {fuel : Nat} {listed0 : Array Bool} {l : List Value} {df : List Deferred} {w : World}
    (hsel : Region.noSelect ops = true) (hdep : depOk md ops listed0 = true) (hcov : coverOk ops listed0 todo = true) (hkeys : keysOk ops listed0 keys = true) (hcl : closedOk md ops listed0 = true) (hmk : (mks.all fun k => decide (k < ops.size) && !listed0.getD k false) = true) (hfuel : unl ops listed0 ≤ fuel)
    (hQ : ∀ c a b w, Q (.panic c) a w → Q (.panic c) b w) (hS : Sx w)
    (hop : Obls P ops Q md Sx mks B l keys vals df todo)
    (hend : ∀ g w, Sx w → (∀ k ∈ mks, B k g w) → Q .normal ⟨(setAll l (keys.zip (vals g))).toArray, df⟩ w) : wpAnyH P md ops Q Sx fuel listed0 ⟨l.toArray, df⟩ w := by
  have hsz : listed0.size = ops.size := by
    unfold coverOk at hcov
    rw [Bool.and_eq_true, beq_iff_eq] at hcov
    exact hcov.1
  rw [List.all_eq_true] at hmk
  have hm : ∀ k ∈ mks, k < ops.size ∧ listed0.getD k false = false := fun k hk => by
    have := hmk k hk
    simpa using this
  refine wpAnyH_det (S := fun listed g w => (Sx w ∧ ∀ k ∈ mks, listed.getD k false = true → B k g w)) (A := fun g => (setAll l (keys.zip (vals g))).toArray) hsel hdep hQ (fun _ _ _ h => h.1) (fun i o ho hl listed g w ha hcl' hlsz hli hS => ?_) (fun _ g w hall h => hend g w h.1 fun k hk => h.2 k hk (hall k _ (Array.getElem?_eq_getElem (hm k hk).1))) fuel listed0 g0 ⟨l.toArray, df⟩ w (fun _ h => h) hfuel hsz (closedOk_spec hcl) ⟨hS, fun k hk h => by rw [(hm k hk).2] at h; cases h⟩ rfl (by simp [setAll_length]) (fun t ht => ?_)
  · have hi : i ∈ todo := by
      unfold coverOk at hcov
      rw [Bool.and_eq_true, List.all_eq_true] at hcov
      have hlt : i < ops.size := by
        rcases Nat.lt_or_ge i ops.size with h | h
        · exact h
        · rw [Array.getElem?_eq_none h] at ho; cases ho
      have := hcov.2 i (List.mem_range.2 hlt)
      rw [hl] at this
      simpa using this
    exact hop.good i hi o ho listed g w ha hcl' hlsz hli hS
  · show l.toArray[t]? = _
    rw [List.getElem?_toArray, List.getElem?_toArray, setAll_get]
    intro p hp
    have hpk : p.1 ∈ keys := (List.of_mem_zip hp).1
    intro e
    unfold keysOk at hkeys
    rw [List.all_eq_true] at hkeys
    have h1 := hkeys p.1 hpk
    rw [List.any_eq_true] at h1
    obtain ⟨j, hj, h2⟩ := h1
    rw [Bool.and_eq_true] at h2
    cases ho : ops[j]? with
    | none => rw [ho] at h2; simp at h2
    | some o =>
      rw [ho] at h2
      refine ht j o ho (by simpa using h2.1) ?_
      have := h2.2
      simp only [beq_iff_eq] at this
      rw [this, e]
end
end Go.Proofs.YtpfmfigommmjiaaDoor
