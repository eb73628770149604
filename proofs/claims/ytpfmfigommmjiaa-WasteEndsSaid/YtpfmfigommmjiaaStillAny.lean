/- A region that draws its order: its first n operations read or call quietly, whatever follows waits for all of them: they are walked once, in the order of the text; the rest is left to be walked in any order. -/
import Derived.Test.YtpfmfigommmjiaaDrawn
import Derived.Test.YtpfmfigommmjiaaDet
import Derived.StillTailTactics
namespace Go.Proofs.Ytpfmfigommmjiaa
open Go
section
variable {P : Program} {ops : Array Oper} {md : Region.Mode} {w : World}
def waitAll (md : Region.Mode) (ops : Array Oper) (n : Nat) : Bool := (List.range ops.size).all fun t => decide (t < n) || (List.range n).all fun i => Region.waitsFor md ops t i
theorem waitAll_spec {n : Nat} (h : waitAll md ops n = true) {t i : Nat} (ht : n ≤ t) (hs : t < ops.size) (hi : i < n) : Region.waitsFor md ops t i = true := by
  have h1 := List.all_eq_true.1 h t (List.mem_range.2 hs)
  simp only [Bool.or_eq_true, decide_eq_true_eq] at h1
  rcases h1 with h1 | h1
  · omega
  · exact List.all_eq_true.1 h1 i (List.mem_range.2 hi)
theorem below_ready {n i j : Nat} {listed : Array Bool} (hw : waitAll md ops n = true) (hi : i < n) (hun : listed.getD i true = false) (hj : j ∈ Region.ready md ops listed) : j < n := by
  rcases Nat.lt_or_ge j n with h | h
  · exact h
  · exfalso
    obtain ⟨_, oj, hoj, hall⟩ := mem_ready.1 hj
    have hjs : j < ops.size := (Array.getElem?_eq_some_iff.1 hoj).1
    obtain ⟨o', ho', e, he, hb, hon⟩ := Region.waitsFor_spec (waitAll_spec hw h hjs hi)
    have : o' = oj := Option.some.inj (ho'.symm.trans hoj)
    subst this
    have h2 := hall e he hb
    rw [hon, getD_both hun] at h2
    cases h2
theorem anyL_first {n i : Nat} {oi : Oper} {v : Value} {L : Array Bool → Act → Prop} (hi : ops[i]? = some oi) (hsel : ∀ (j : Nat) (o : Oper) cs b, ops[j]? = some o → o.op ≠ .select cs b)
    (hw : waitAll md ops n = true) (hin : i < n)
    (hdone : ∀ listed a, L listed a → ∀ j ∈ Region.ready md ops listed, n ≤ j) :
    ∀ (f : Nat) (listed : Array Bool) (a : Act),
      (∀ j oj, ops[j]? = some oj → j ≠ i → listed.getD j true = false → (∀ e ∈ oj.after, Region.binds md e = true → e.on ≠ i) → oi.apart ops oj = true) →
      i ∈ Region.ready md ops listed → YieldsAt P ops w oi v a →
      wpAnyL P md ops w n L f (listed.setIfInBounds i true) (a.put oi.dst v) → wpAnyL P md ops w n L (f + 1) listed a := by
  intro f
  induction f with
  | zero =>
    intro listed a _ hr hy H
    have hun := (mem_ready.1 hr).1
    refine ⟨fun h => (by rw [h] at hr; cases hr), fun j hj => ?_⟩
    have hjn := below_ready hw hin hun hj
    refine ⟨hjn, ?_⟩
    by_cases hji : j = i
    · subst hji; exact hy.stOp hi H
    · have := hdone _ _ H j (ready_mono hj hji)
      omega
  | succ f ih =>
    intro listed a hfree hr hy H
    have hun := (mem_ready.1 hr).1
    refine ⟨fun h => (by rw [h] at hr; cases hr), fun j hj => ?_⟩
    have hjn := below_ready hw hin hun hj
    refine ⟨hjn, ?_⟩
    by_cases hji : j = i
    · subst hji; exact hy.stOp hi H
    · have h1 := (H.2 j (ready_mono hj hji)).2
      obtain ⟨hjun, oj, hoj, hall⟩ := mem_ready.1 hj
      have hnot : ∀ e ∈ oj.after, Region.binds md e = true → e.on ≠ i := fun e he hb heq => by
        have h1 := hall e he hb
        rw [heq, getD_both hun] at h1
        cases h1
      have h2 := stOp_put hoj (hfree j oj hoj hji hjun hnot) (fun cs b => hsel i oi cs b hi) (fun cs b => hsel j oj cs b hoj) hy h1
      have hfree' : ∀ k ok, ops[k]? = some ok → k ≠ i → (listed.setIfInBounds j true).getD k true = false →
          (∀ e ∈ ok.after, Region.binds md e = true → e.on ≠ i) → oi.apart ops ok = true := fun k ok hk hki hun hno => by
        refine hfree k ok hk hki ?_ hno
        by_cases hjk : j = k
        · subst hjk; exact hjun
        · rw [getD_set_ne true hjk] at hun; exact hun
      refine stOp_mono (fun a' h3 => ih (listed.setIfInBounds j true) a' hfree' (ready_mono hr (Ne.symm hji)) h3.1 ?_) h2
      rw [Array.setIfInBounds_comm _ _ hji]
      exact h3.2
/-- the first ones come up one behind the other; behind them none of them is left -/
def lexAny (md : Region.Mode) (ops : Array Oper) (n : Nat) : Nat → Nat → Array Bool → Bool
  | 0, _, listed => (Region.ready md ops listed).all fun j => decide (n ≤ j)
  | f + 1, k, listed => (Region.ready md ops listed).contains k && Region.free md ops listed k && lexAny md ops n f (k + 1) (listed.setIfInBounds k true)
def listedBy : Nat → Nat → Array Bool → Array Bool
  | 0, _, listed => listed
  | f + 1, k, listed => listedBy f (k + 1) (listed.setIfInBounds k true)
theorem anyL_lex {n : Nat} {Lq : Array Bool → Act → Prop} (hsel : Region.noSelect ops = true) (hw : waitAll md ops n = true) :
    ∀ (l : List Oper) (k : Nat) (listed : Array Bool) (a : Act), (∀ j, j < l.length → l[j]? = ops[k + j]?) → k + l.length = n →
    lexAny md ops n l.length k listed = true → wpStill P ops w (Lq (listedBy l.length k listed)) l a →
    wpAnyL P md ops w n (fun listed' a' => (∀ j ∈ Region.ready md ops listed', n ≤ j) ∧ Lq listed' a') l.length listed a
  | [], k, listed, a, _, _, hB, h => by
    refine ⟨fun j hj => ?_, h⟩
    have := List.all_eq_true.1 hB j hj
    simpa using this
  | o :: l, k, listed, a, hl, hk, hB, h => by
    have h0 : ops[k]? = some o := by simpa using (hl 0 (by simp)).symm
    simp only [List.length_cons, lexAny, Bool.and_eq_true] at hB
    obtain ⟨⟨hr, hf⟩, hB'⟩ := hB
    have hkn : k < n := by simp only [List.length_cons] at hk; omega
    have hr' : k ∈ Region.ready md ops listed := by simpa using hr
    have hst : stOp P ops w k (wpStill P ops w (Lq (listedBy l.length (k + 1) (listed.setIfInBounds k true))) l) a := by unfold stOp; simp only [h0]; exact h
    obtain ⟨v, hy, hK⟩ := yieldsAt_of_stOp h0 hst
    exact anyL_first h0 (Region.noSelect_spec hsel) hw hkn (fun listed' a' hL => hL.1) l.length listed a (Region.free_spec h0 hf) hr' hy
      (anyL_lex hsel hw l (k + 1) _ _ (fun j hj => by have := hl (j + 1) (by simp; omega); simpa [Nat.add_assoc, Nat.add_comm 1 j] using this) (by simp only [List.length_cons] at hk; omega) hB' hK)
def stillAnyB (ops : Array Oper) (n : Nat) : Bool := Region.noSelect ops && waitAll .any ops n && lexAny .any ops n n 0 (Array.replicate ops.size false)
theorem wp_region_still_any {id : Nat} {Q : Exit → Act → World → Prop} {a : Act} {l : List Oper} (n g : Nat) (S : World → Prop) (hm : P.follows .mixedOrders = true) (hB : stillAnyB l.toArray n = true) (hg : l.length = n + g)
    (h : wpStill P l.toArray w.drew (fun a' => wpAnyH P .any l.toArray Q S g (listedBy n 0 (Array.replicate l.length false)) a' w.drew) (l.take n) a) : (Code.region id l.toArray true).wp P Q a w := by
  simp only [stillAnyB, Bool.and_eq_true] at hB
  obtain ⟨⟨hsel, hw⟩, hlex⟩ := hB
  have htl : (l.take n).length = n := by simp; omega
  refine wp_region_any hm ?_
  have H := anyL_lex (P := P) (md := .any) (ops := l.toArray) (w := w.drew) (Lq := fun listed a' => wpAnyH P .any l.toArray Q S g listed a' w.drew) hsel hw (l.take n) 0 (Array.replicate l.toArray.size false) a (fun j hj => by
    have hj' : j < n := by rw [htl] at hj; exact hj
    simp [hj']) (by simpa using htl) (by rw [htl]; exact hlex) (by rw [htl]; exact h)
  have := wpAny_of_head (Q' := Q) (g := g) (fun listed a' hL => wpAny_of_held g listed a' w.drew hL.2) _ _ _ H
  rw [htl] at this
  have e : l.toArray.size = n + g := by simpa using hg
  rw [e]
  rw [e] at this
  exact this
/-! ### The same for a head that is no beginning of the text: whatever is not of it waits for it, by one road or another. -/
def waitHd (md : Region.Mode) (ops : Array Oper) (hd : List Nat) (listed0 : Array Bool) : Bool := (List.range ops.size).all fun t => hd.contains t || listed0.getD t false || hd.all fun i => anc md ops ops.size t i
structure HdInv (md : Region.Mode) (ops : Array Oper) (hd : List Nat) (listed0 listed : Array Bool) : Prop where
  size : listed.size = ops.size
  closed : Closed md ops listed
  tail : ∀ t, t ∉ hd → listed.getD t false = listed0.getD t false
theorem HdInv.ready {hd : List Nat} {listed0 listed : Array Bool} (h : HdInv md ops hd listed0 listed) (hw : waitHd md ops hd listed0 = true) {i j : Nat} (hi : i ∈ hd) (hun : listed.getD i true = false) (hj : j ∈ Region.ready md ops listed) : j ∈ hd := by
  rcases Classical.em (j ∈ hd) with hh | hh
  · exact hh
  · exfalso
    obtain ⟨hju, oj, hoj, hall⟩ := mem_ready.1 hj
    have hjs : j < ops.size := (Array.getElem?_eq_some_iff.1 hoj).1
    have h1 := List.all_eq_true.1 hw j (List.mem_range.2 hjs)
    simp only [Bool.or_eq_true, List.contains_iff_mem] at h1
    rcases h1 with (h1 | h1) | h1
    · exact hh h1
    · rw [← h.tail j hh, getD_both hju] at h1; cases h1
    · have h2 := anc_listed h.closed _ j oj hoj hall (List.all_eq_true.1 h1 i hi)
      rw [getD_both hun] at h2
      cases h2
theorem HdInv.set {hd : List Nat} {listed0 listed : Array Bool} (h : HdInv md ops hd listed0 listed) {i : Nat} (hi : i ∈ Region.ready md ops listed) (him : i ∈ hd) : HdInv md ops hd listed0 (listed.setIfInBounds i true) := by
  obtain ⟨_, oi, hoi, hall⟩ := mem_ready.1 hi
  refine ⟨by simp [h.size], h.closed.set hoi hall, fun t ht => ?_⟩
  rw [getD_set_ne false (show i ≠ t by rintro rfl; exact ht him)]
  exact h.tail t ht
theorem hd_first {hd : List Nat} {listed0 : Array Bool} {i : Nat} {oi : Oper} {v : Value} {L : Array Bool → Act → Prop} (hi : ops[i]? = some oi) (hsel : ∀ (j : Nat) (o : Oper) cs b, ops[j]? = some o → o.op ≠ .select cs b)
    (hw : waitHd md ops hd listed0 = true) (him : i ∈ hd) (hdone : ∀ listed a, L listed a → ∀ k ∈ hd, listed.getD k false = true) :
    ∀ (f : Nat) (listed : Array Bool) (a : Act), HdInv md ops hd listed0 listed →
      (∀ j oj, ops[j]? = some oj → j ≠ i → listed.getD j true = false → (∀ e ∈ oj.after, Region.binds md e = true → e.on ≠ i) → oi.apart ops oj = true) →
      i ∈ Region.ready md ops listed → YieldsAt P ops w oi v a →
      wpAnyL P md ops w ops.size L f (listed.setIfInBounds i true) (a.put oi.dst v) → wpAnyL P md ops w ops.size L (f + 1) listed a := by
  intro f
  induction f with
  | zero =>
    intro listed a inv _ hr hy H
    have hun := (mem_ready.1 hr).1
    refine ⟨fun h => (by rw [h] at hr; cases hr), fun j hj => ?_⟩
    have hjm := inv.ready hw him hun hj
    obtain ⟨hju, oj, hoj, _⟩ := mem_ready.1 hj
    refine ⟨(Array.getElem?_eq_some_iff.1 hoj).1, ?_⟩
    by_cases hji : j = i
    · subst hji; exact hy.stOp hi H
    · have h2 := hdone _ _ H j hjm
      rw [getD_set_ne false (Ne.symm hji), getD_both hju] at h2
      cases h2
  | succ f ih =>
    intro listed a inv hfree hr hy H
    have hun := (mem_ready.1 hr).1
    refine ⟨fun h => (by rw [h] at hr; cases hr), fun j hj => ?_⟩
    have hjm := inv.ready hw him hun hj
    obtain ⟨hjun, oj, hoj, hall⟩ := mem_ready.1 hj
    refine ⟨(Array.getElem?_eq_some_iff.1 hoj).1, ?_⟩
    by_cases hji : j = i
    · subst hji; exact hy.stOp hi H
    · have h1 := (H.2 j (ready_mono hj hji)).2
      have hnot : ∀ e ∈ oj.after, Region.binds md e = true → e.on ≠ i := fun e he hb heq => by
        have h1 := hall e he hb
        rw [heq, getD_both hun] at h1
        cases h1
      have h2 := stOp_put hoj (hfree j oj hoj hji hjun hnot) (fun cs b => hsel i oi cs b hi) (fun cs b => hsel j oj cs b hoj) hy h1
      have hfree' : ∀ k ok, ops[k]? = some ok → k ≠ i → (listed.setIfInBounds j true).getD k true = false →
          (∀ e ∈ ok.after, Region.binds md e = true → e.on ≠ i) → oi.apart ops ok = true := fun k ok hk hki hun hno => by
        refine hfree k ok hk hki ?_ hno
        by_cases hjk : j = k
        · subst hjk; exact hjun
        · rw [getD_set_ne true hjk] at hun; exact hun
      refine stOp_mono (fun a' h3 => ih (listed.setIfInBounds j true) a' (inv.set hj hjm) hfree' (ready_mono hr (Ne.symm hji)) h3.1 ?_) h2
      rw [Array.setIfInBounds_comm _ _ hji]
      exact h3.2
def lexHd (md : Region.Mode) (ops : Array Oper) : List Nat → Array Bool → Bool
  | [], _ => true
  | k :: r, listed => (Region.ready md ops listed).contains k && Region.free md ops listed k && lexHd md ops r (listed.setIfInBounds k true)
def listedHd : List Nat → Array Bool → Array Bool
  | [], listed => listed
  | k :: r, listed => listedHd r (listed.setIfInBounds k true)
theorem hd_lex {hd : List Nat} {listed0 : Array Bool} {Lq : Array Bool → Act → Prop} (hsel : Region.noSelect ops = true) (hw : waitHd md ops hd listed0 = true) :
    ∀ (r : List Nat) (l : List Oper) (listed : Array Bool) (a : Act), l.map some = r.map (fun k => ops[k]?) → (∀ k ∈ r, k ∈ hd) → (∀ k ∈ hd, k ∉ r → listed.getD k false = true) → HdInv md ops hd listed0 listed →
    lexHd md ops r listed = true → wpStill P ops w (Lq (listedHd r listed)) l a →
    wpAnyL P md ops w ops.size (fun listed' a' => (∀ k ∈ hd, listed'.getD k false = true) ∧ Lq listed' a') r.length listed a
  | [], [], listed, a, _, _, hd0, _, _, h => ⟨fun k hk => hd0 k hk (by simp), h⟩
  | [], _ :: _, _, _, hl, _, _, _, _, _ => by simp at hl
  | _ :: _, [], _, _, hl, _, _, _, _, _ => by simp at hl
  | k :: r, o :: l, listed, a, hl, hin, hd0, inv, hB, h => by
    simp only [List.map_cons, List.cons.injEq] at hl
    have h0 : ops[k]? = some o := hl.1.symm
    simp only [lexHd, Bool.and_eq_true] at hB
    obtain ⟨⟨hr, hf⟩, hB'⟩ := hB
    have hr' : k ∈ Region.ready md ops listed := by simpa using hr
    have hkm := hin k (by simp)
    have hst : stOp P ops w k (wpStill P ops w (Lq (listedHd r (listed.setIfInBounds k true))) l) a := by unfold stOp; simp only [h0]; exact h
    obtain ⟨v, hy, hK⟩ := yieldsAt_of_stOp h0 hst
    have hks : k < listed.size := by rw [inv.size]; exact (Array.getElem?_eq_some_iff.1 h0).1
    exact hd_first h0 (Region.noSelect_spec hsel) hw hkm (fun listed' a' hL => hL.1) r.length listed a inv (Region.free_spec h0 hf) hr' hy
      (hd_lex hsel hw r l _ _ hl.2 (fun q hq => hin q (by simp [hq])) (fun q hq hn => by
        by_cases e : k = q
        · subst e
          simp [hks]
        · rw [getD_set_ne false e]
          exact hd0 q hq (by simp only [List.mem_cons, not_or]; exact ⟨Ne.symm e, hn⟩)) (inv.set hr' hkm) hB' hK)
theorem wpAny_still {Q : Exit → Act → World → Prop} {a : Act} {listed0 : Array Bool} {F : Nat} (hd : List Nat) (l : List Oper) (g : Nat) (S : World → Prop) (hl : l.map some = hd.map (fun k => ops[k]?)) (hsel : Region.noSelect ops = true)
    (hsz : (listed0.size == ops.size) = true) (hcl : closedOk md ops listed0 = true) (hw : waitHd md ops hd listed0 = true) (hlex : lexHd md ops hd listed0 = true) (hF : F = hd.length + g)
    (h : wpStill P ops w (fun a' => wpAnyH P md ops Q S g (listedHd hd listed0) a' w) l a) : wpAny P md ops Q F listed0 a w := by
  subst hF
  have H := hd_lex (P := P) (w := w) (Lq := fun listed a' => wpAnyH P md ops Q S g listed a' w) hsel hw hd l listed0 a hl (fun k hk => hk) (fun k hk hn => absurd hk hn) ⟨by simpa using hsz, closedOk_spec hcl, fun t _ => rfl⟩ hlex h
  exact wpAny_of_head (Q' := Q) (g := g) (fun listed a' hL => wpAny_of_held g listed a' w hL.2) _ _ _ H
theorem wpAny_head {L : List Oper} {Q : Exit → Act → World → Prop} {a : Act} {listed0 : Array Bool} {F : Nat} (hd : List Nat) (cut : List Oper → List Oper) (g : Nat) (S : World → Prop) (hl : (cut L).map some = hd.map (fun k => L.toArray[k]?)) (hsel : Region.noSelect L.toArray = true)
    (hsz : (listed0.size == L.toArray.size) = true) (hcl : closedOk md L.toArray listed0 = true) (hw : waitHd md L.toArray hd listed0 = true) (hlex : lexHd md L.toArray hd listed0 = true) (hF : F = hd.length + g)
    (h : wpStill P L.toArray w (fun a' => wpAnyH P md L.toArray Q S g (listedHd hd listed0) a' w) (cut L) a) : wpAny P md L.toArray Q F listed0 a w :=
  wpAny_still hd (cut L) g S hl hsel hsz hcl hw hlex hF h
theorem run_store_1 (w : World) (b o : Nat) (ty : TypeId) (v : Value) (hv : v.cells = #[v]) (hc : (w.cell? ⟨b, o, none⟩).isSome = true) (hf : w.frozen? ⟨b, o, none⟩ = false) (hi : (P.info? ty).map (·.size) = some 1) (h1 : v.oneCell' = true) :
    (storeVar ty ⟨b, o, none⟩ v).run P w = .ok () (w.setCell ⟨b, o, none⟩ v) := by
  have := run_storeCells_cells (P := P) b o [v] 0 w (fun j hj => by obtain rfl : j = 0 := by simpa using hj
                                                                    exact hc) (fun j hj => by obtain rfl : j = 0 := by simpa using hj
                                                                                              exact hf) (fun u hu => by rw [List.mem_singleton.1 hu]; exact h1)
  cases hq : P.info? ty with
  | none => simp [hq] at hi
  | some i =>
    have hs : i.size = 1 := by simpa [hq] using hi
    simp only [Nat.add_zero] at this
    simp [storeVar, sizeOf, typeInfo, hq, hv, hs, this, World.setCells]
theorem wp_store_1 {op : Oper} {a : Act} {K : Act → World → Prop} {Q : Exit → Act → World → Prop} (ty : TypeId) (x y : Operand) (ho : op.op = .store ty x y) (b o : Nat) (v : Value)
    (hx : a.eval x = .pointer (some ⟨b, o, none⟩)) (hy : a.eval y = v) (hv : v.cells = #[v]) (hc : (w.cell? ⟨b, o, none⟩).isSome = true) (hf : w.frozen? ⟨b, o, none⟩ = false) (hi : (P.info? ty).map (·.size) = some 1) (h1 : v.oneCell' = true)
    (h : K (a.put op.dst undef) (w.setCell ⟨b, o, none⟩ v)) : op.wp P a w K Q := by
  unfold Oper.wp execOp
  simp only [ho, hx, hy, Instr.storeAt, Instr.sureAddr, Sem.run_bind, Sem.run_pure, Result.andThen_ok, run_store_1 w b o ty v hv hc hf hi h1]
  exact h
end
end Go.Proofs.Ytpfmfigommmjiaa
