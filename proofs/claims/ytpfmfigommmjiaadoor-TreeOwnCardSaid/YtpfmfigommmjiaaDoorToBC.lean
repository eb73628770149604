/- Joined: TakeE, Grown, WalkReap, WalkReapD, IdMapS, WalkReap1, WalkNeed, WalkChange, WalkLaws, WalkSl. -/
import Derived.Test.YtpfmfigommmjiaaDoorToAB
import Derived.Test.YtpfmfigommmjiaaDoorToAX
import Derived.Test.YtpfmfigommmjiaaDoorToAZ
import Derived.Test.YtpfmfigommmjiaaDoorToAY
import Derived.Test.YtpfmfigommmjiaaDoorToAA
import Derived.Test.YtpfmfigommmjiaaDoorToAQ
namespace Go.Proofs.YtpfmfigommmjiaaDoor
open Go Go.RowKit
section
variable {P : Program} {ops : Array Oper} {Q : Exit → Act → World → Prop} {md : Region.Mode} {S : World → Prop}
/-- a value, or a call that answers it and leaves the world -/
def YieldsQ (P : Program) (ops : Array Oper) (S : World → Prop) (o : Oper) (v : Value) (a : Act) : Prop :=
  (Region.wanted o (yielded ops a.tmps) = true ∧ ((∀ w, S w → (execOp a.eval o).run P w = .ok (.value v) w) ∨ ∃ f args, (∀ w, S w → (execOp a.eval o).run P w = .ok (.enter f args) w) ∧ ∀ w, S w → Calls P f args w fun e w' => e = .returned v ∧ w = w')) ∨
  (Region.wanted o (yielded ops a.tmps) = false ∧ v = undef)
theorem YieldsQ.wpOp {i : Nat} {o : Oper} {v : Value} {a : Act} (hi : ops[i]? = some o) (hy : YieldsQ P ops S o v a) {K : Act → World → Prop} {w : World} (hS : S w) (h : K (a.put o.dst v) w) : wpOp P ops Q i K a w := by
  unfold Go.wpOp
  simp only [hi]
  rcases hy with ⟨hw, hv | ⟨f, args, he, hc⟩⟩ | ⟨hw, rfl⟩
  · simp only [hw, if_true, Oper.wp, hv w hS, Oper.upon]; exact .inl h
  · simp only [hw, if_true]
    exact .inl (wp_call_run (he w hS) (hc w hS) fun e w' ⟨h1, h2⟩ => ⟨v, h1, by rw [← h2]; exact h⟩)
  · simp only [hw, Bool.false_eq_true, if_false]; exact h
theorem YieldsQ.of_same {o : Oper} {v : Value} {a a' : Act} (hy : YieldsQ P ops S o v a) (he : execOp a'.eval o = execOp a.eval o)
    (hw : Region.wanted o (yielded ops a'.tmps) = Region.wanted o (yielded ops a.tmps)) : YieldsQ P ops S o v a' := by
  unfold YieldsQ at *
  rw [he, hw]
  exact hy
theorem wpOp_putQ {j : Nat} {oi oj : Oper} {v : Value} (hj : ops[j]? = some oj) (hap : oi.apart ops oj = true)
    (hsi : ∀ cs b, oi.op ≠ .select cs b) (hsj : ∀ cs b, oj.op ≠ .select cs b)
    (hQ : ∀ c a w, Q (.panic c) (a.put oi.dst v) w → Q (.panic c) a w) {K : Act → World → Prop} {a : Act} {w : World}
    (hy : YieldsQ P ops S oi v a) (h : wpOp P ops Q j K (a.put oi.dst v) w) :
    wpOp P ops Q j (fun a' w' => YieldsQ P ops S oi v a' ∧ K (a'.put oi.dst v) w') a w := by
  obtain ⟨h1, h2, h3⟩ := Oper.apart_spec hap
  have keep : ∀ (a : Act), YieldsQ P ops S oi v a → ∀ u, YieldsQ P ops S oi v (a.put oj.dst u) := fun a hy u =>
    hy.of_same (execOp_put oi hsi a oj.dst u h3) (wanted_put oi a oj.dst u h3)
  have keepD : ∀ d, YieldsQ P ops S oi v { a with defers := d :: a.defers } := fun d => hy.of_same rfl rfl
  unfold wpOp at *
  simp only [hj] at *
  rw [wanted_put oj a oi.dst v h1] at h
  split
  · rename_i hw
    simp only [hw, if_true] at h
    rcases h with h | ⟨hasks, hlets⟩
    case inr => exact .inr ⟨by unfold Oper.asks at *; rw [execOp_put oj hsj a oi.dst v h1] at hasks; exact hasks, hlets⟩
    refine .inl ?_
    unfold Oper.wp at *
    rw [execOp_put oj hsj a oi.dst v h1] at h
    generalize (execOp a.eval oj).run P w = r at *
    cases r with
    | ok n w' =>
      cases n <;> simp only [Oper.upon] at h ⊢
      case value u => exact ⟨keep a hy u, by rw [← Act.put_comm a v u h2]; exact h⟩
      case skip => exact ⟨keep a hy _, by rw [← Act.put_comm a v undef h2]; exact h⟩
      case defer d =>
        refine ⟨keep _ (keepD d) _, ?_⟩
        rw [← Act.put_comm _ v undef h2, ← Act.put_defers]
        exact h
      case enter f args =>
        refine Calls.mono h fun e w'' he => ?_
        cases e with
        | returned u => exact ⟨keep a hy u, by rw [← Act.put_comm a v u h2]; exact he⟩
        | panicked c => exact hQ _ _ _ he
        | outgrown => exact he
      case row row args => exact Rows.mono h fun u w'' he => ⟨keep a hy u, by rw [← Act.put_comm a v u h2]; exact he⟩
    | halt x w' =>
      cases x <;> simp only [Oper.upon] at h ⊢
      case panic u => exact hQ _ _ _ h
  · rename_i hw
    simp only [hw] at h
    exact ⟨keep a hy _, by rw [← Act.put_comm a v undef h2]; exact h⟩
/-- whatever order is picked, and S holds behind every operation but number l -/
def wpAnyE (P : Program) (md : Region.Mode) (ops : Array Oper) (Q : Exit → Act → World → Prop) (S : World → Prop) (l : Nat) : Nat → Array Bool → Act → World → Prop
  | 0, listed, a, w => Region.ready md ops listed = [] ∧ Q .normal a w
  | fuel + 1, listed, a, w =>
    (Region.ready md ops listed = [] → Q .normal a w) ∧
    ∀ i ∈ Region.ready md ops listed, wpOp P ops Q i (fun a' w' => (i ≠ l → S w') ∧ wpAnyE P md ops Q S l fuel (listed.setIfInBounds i true) a' w') a w
theorem wpAny_of_E {l : Nat} : ∀ (fuel : Nat) (listed : Array Bool) (a : Act) (w : World), wpAnyE P md ops Q S l fuel listed a w → wpAny P md ops Q fuel listed a w
  | 0, _, _, _, h => h
  | fuel + 1, _, _, _, h => ⟨h.1, fun i hi => wpOp_mono (fun a' w' h' => wpAny_of_E fuel _ a' w' h'.2) (h.2 i hi)⟩
/-- l waits for i by itself -/
def waitsDirect (md : Region.Mode) (ops : Array Oper) (l i : Nat) : Bool := match ops[l]? with
  | none => true
  | some o => o.after.any fun e => Region.binds md e && e.on == i
theorem not_ready_of {l i : Nat} {listed : Array Bool} (h : waitsDirect md ops l i = true) (hi : i ∈ Region.ready md ops listed) : l ∉ Region.ready md ops listed := fun hl => by
  obtain ⟨_, o, ho, hall⟩ := mem_ready.1 hl
  unfold waitsDirect at h
  rw [ho] at h
  obtain ⟨e, he, hb⟩ := Array.any_eq_true'.1 h
  simp only [Bool.and_eq_true, beq_iff_eq] at hb
  have h1 := hall e he hb.1
  have h0 := (mem_ready.1 hi).1
  rw [hb.2] at h1
  rcases Nat.lt_or_ge i listed.size with h' | h'
  · simp [h'] at h0 h1; rw [h0] at h1; cases h1
  · simp [Array.getElem?_eq_none h'] at h1
theorem wpAnyE_first {l i : Nat} {oi : Oper} {v : Value} (hi : ops[i]? = some oi) (hsel : ∀ (j : Nat) (o : Oper) cs b, ops[j]? = some o → o.op ≠ .select cs b) (hl : waitsDirect md ops l i = true) (hil : i ≠ l)
    (hQ : ∀ c a w, Q (.panic c) (a.put oi.dst v) w → Q (.panic c) a w) :
    ∀ (fuel : Nat) (listed : Array Bool) (a : Act) (w : World),
      (∀ j oj, ops[j]? = some oj → j ≠ i → listed.getD j true = false → (∀ e ∈ oj.after, Region.binds md e = true → e.on ≠ i) → oi.apart ops oj = true) →
      i ∈ Region.ready md ops listed → YieldsQ P ops S oi v a → S w →
      wpAnyE P md ops Q S l fuel (listed.setIfInBounds i true) (a.put oi.dst v) w → wpAnyE P md ops Q S l (fuel + 1) listed a w := by
  intro fuel
  induction fuel with
  | zero =>
    intro listed a w _ hr hy hS H
    refine ⟨fun h => (by rw [h] at hr; cases hr), fun j hj => ?_⟩
    by_cases hji : j = i
    · subst hji; exact hy.wpOp hi hS ⟨fun _ => hS, H⟩
    · have := ready_mono hj hji
      rw [H.1] at this
      cases this
  | succ fuel ih =>
    intro listed a w hfree hr hy hS H
    refine ⟨fun h => (by rw [h] at hr; cases hr), fun j hj => ?_⟩
    by_cases hji : j = i
    · subst hji; exact hy.wpOp hi hS ⟨fun _ => hS, H⟩
    · have hjl : j ≠ l := fun e => by subst e; exact not_ready_of hl hr hj
      have h1 := H.2 j (ready_mono hj hji)
      obtain ⟨hjun, oj, hoj, hall⟩ := mem_ready.1 hj
      have hnot : ∀ e ∈ oj.after, Region.binds md e = true → e.on ≠ i := fun e he hb heq => by
        have h1 := hall e he hb
        have h0 := (mem_ready.1 hr).1
        rw [heq] at h1
        rcases Nat.lt_or_ge i listed.size with h' | h'
        · simp [h'] at h0 h1; rw [h0] at h1; cases h1
        · simp [Array.getElem?_eq_none h'] at h1
      have h2 := wpOp_putQ hoj (hfree j oj hoj hji hjun hnot) (fun cs b => hsel i oi cs b hi) (fun cs b => hsel j oj cs b hoj) hQ hy h1
      have hfree' : ∀ k ok, ops[k]? = some ok → k ≠ i → (listed.setIfInBounds j true).getD k true = false →
          (∀ e ∈ ok.after, Region.binds md e = true → e.on ≠ i) → oi.apart ops ok = true := fun k ok hk hki hun hno => by
        refine hfree k ok hk hki ?_ hno
        by_cases hjk : j = k
        · subst hjk; exact hjun
        · rw [getD_set_ne true hjk] at hun; exact hun
      refine wpOp_mono (fun a' w' h3 => ⟨fun _ => h3.2.1 hjl, ih (listed.setIfInBounds j true) a' w' hfree' (ready_mono hr (Ne.symm hji)) h3.1 (h3.2.1 hjl) ?_⟩) h2
      rw [Array.setIfInBounds_comm _ _ hji]
      exact h3.2.2
theorem takeE_val {l0 fuel : Nat} {listed : Array Bool} {l : List Value} {df : List Deferred} {w : World} (i : Nat) {oi : Oper} {d : Nat} (v : Value)
    (hi : ops[i]? = some oi) (hs : Region.noSelect ops = true) (hf : Region.free md ops listed i = true) (hr : (Region.ready md ops listed).contains i = true) (hl : waitsDirect md ops l0 i = true) (hil : (i != l0) = true)
    (hQ : ∀ c a w v, Q (.panic c) (a.put oi.dst v) w → Q (.panic c) a w)
    (hw : Region.wanted oi (yielded ops l.toArray) = true) (hd : oi.dst = some d) (hv : ∀ w, S w → (execOp (Act.mk l.toArray df).eval oi).run P w = .ok (.value v) w) (hS : S w)
    (h : wpAnyE P md ops Q S l0 fuel (listed.setIfInBounds i true) ⟨(l.set d v).toArray, df⟩ w) : wpAnyE P md ops Q S l0 (fuel + 1) listed ⟨l.toArray, df⟩ w := by
  refine wpAnyE_first hi (Region.noSelect_spec hs) hl (by simpa using hil) (fun c a w => hQ c a w _) fuel listed _ w (Region.free_spec hi hf) (by simpa using hr) (Or.inl ⟨hw, Or.inl hv⟩) hS ?_
  simpa only [hd, Act.put, List.setIfInBounds_toArray] using h
theorem takeE_call {l0 fuel : Nat} {listed : Array Bool} {l : List Value} {df : List Deferred} {w : World} (i : Nat) {oi : Oper} {d : Nat} (v : Value) (f : FuncId) (args : Array Value)
    (hi : ops[i]? = some oi) (hs : Region.noSelect ops = true) (hf : Region.free md ops listed i = true) (hr : (Region.ready md ops listed).contains i = true) (hl : waitsDirect md ops l0 i = true) (hil : (i != l0) = true)
    (hQ : ∀ c a w v, Q (.panic c) (a.put oi.dst v) w → Q (.panic c) a w)
    (hw : Region.wanted oi (yielded ops l.toArray) = true) (hd : oi.dst = some d) (hv : ∀ w, S w → (execOp (Act.mk l.toArray df).eval oi).run P w = .ok (.enter f args) w) (hc : ∀ w, S w → Calls P f args w fun e w' => e = .returned v ∧ w = w') (hS : S w)
    (h : wpAnyE P md ops Q S l0 fuel (listed.setIfInBounds i true) ⟨(l.set d v).toArray, df⟩ w) : wpAnyE P md ops Q S l0 (fuel + 1) listed ⟨l.toArray, df⟩ w := by
  refine wpAnyE_first hi (Region.noSelect_spec hs) hl (by simpa using hil) (fun c a w => hQ c a w _) fuel listed _ w (Region.free_spec hi hf) (by simpa using hr) (Or.inl ⟨hw, Or.inr ⟨f, args, hv, hc⟩⟩) hS ?_
  simpa only [hd, Act.put, List.setIfInBounds_toArray] using h
/-- one operation alone is ready -/
theorem oneE_ready {l0 fuel : Nat} {listed : Array Bool} {a : Act} {w : World} (i : Nat) {o : Oper} (hr : Region.ready md ops listed = [i]) (ho : ops[i]? = some o)
    (hw : Region.wanted o (yielded ops a.tmps) = true)
    (h : ∀ K' : Act → World → Prop, Hid (∀ a w, (i ≠ l0 → S w) → wpAnyE P md ops Q S l0 fuel (listed.setIfInBounds i true) a w → K' a w) → Oper.wp P o a w K' Q) : wpAnyE P md ops Q S l0 (fuel + 1) listed a w := by
  refine ⟨fun h0 => (by rw [hr] at h0; cases h0), fun j hj => ?_⟩
  rw [hr, List.mem_singleton] at hj
  subst hj
  refine wpOp_step ho fun K' hK => ?_
  rw [if_pos hw]
  exact h K' (Lib.hid fun a w hS hx => hK a w ⟨hS, hx⟩)
theorem wpAnyE_done {l0 : Nat} {listed : Array Bool} {a : Act} {w : World} (hr : Region.ready md ops listed = []) (h : Q .normal a w) : ∀ fuel, wpAnyE P md ops Q S l0 fuel listed a w
  | 0 => ⟨hr, h⟩
  | _ + 1 => ⟨fun _ => h, by rw [hr]; simp⟩
theorem wp_region_E {id : Nat} {a : Act} {w : World} (l0 : Nat) (hm : P.follows .mixedOrders = true) (hS : S w.drew) (h : S w.drew → wpAnyE P .any ops Q S l0 ops.size (Array.replicate ops.size false) a w.drew) : (Code.region id ops true).wp P Q a w :=
  wp_region_any hm (wpAny_of_E _ _ _ _ (h hS))
end
end Go.Proofs.YtpfmfigommmjiaaDoor
namespace Go.Proofs.YtpfmfigommmjiaaDoor
open Go.RowKit
theorem SAt.grown {α : Type} {n : Nat} {c : α → List Value} {w w' : World} {a : Option Addr} {l : List α} {g : Nat} (h : SAt n c w a l) (hg : w.grownBy w' (some g)) (hne : ∀ ad, a = some ad → ad.block ≠ g) : SAt n c w' a l := fun i hi => by
  obtain ⟨b, off, e, hb, hr⟩ := h i hi
  refine ⟨b, off, e, Nat.lt_of_lt_of_le hb hg.size, fun j u hu => ?_⟩
  rw [World.cell?_of_block (a := ⟨b, off + i * n + j, none⟩) (hg.block b hb (fun e2 => hne _ e (by injection e2)))]
  exact hr j u hu
theorem Amp.grown {α : Type} {c : α → List Value} {z : List Value} {t : TypeId} {w w' : World} {b g : Nat} {l : List α} {f : α} (h : Amp c z t w b l f) (hg : w.grownBy w' (some g)) (hne : b ≠ g) : Amp c z t w' b l f :=
  (hg.block b (lt_of_block h) (fun e => hne (by injection e))).trans h
theorem below_grown {B g : Nat} {a w w' : World} (h : Below B a w) (hg : w.grownBy w' (some g)) (hB : B ≤ w.heap.size) (hBg : B ≤ g) : Below B a w' := h.grown hg hB (fun k e => by injection e with e; omega)
/-- the slice lies in a block from B on, or nowhere -/
def NB (B : Nat) (a : Option Addr) : Prop := ∀ ad, a = some ad → B ≤ ad.block
theorem NB.ne {B : Nat} {a : Option Addr} (h : NB B a) {g : Nat} (hg : g < B) : ∀ ad, a = some ad → ad.block ≠ g := fun ad e => by have := h ad e; omega
theorem NB.mono {B C : Nat} {a : Option Addr} (h : NB B a) (hC : C ≤ B) : NB C a := fun ad e => Nat.le_trans hC (h ad e)
theorem nb_own {w : World} {base : Nat} {a : Option Addr} {T : TypeId} {k n m c : Nat} {xs : List Value} (h : w.ownsRow base T k (.slice a m c) n xs) : NB base a := by
  intro ad e
  rcases h.2 with ⟨h0, _⟩ | ⟨g, c', cur, h0, hbg, _⟩
  · injection h0 with h0 _ _
    rw [e] at h0
    cases h0
  · injection h0 with h0 _ _
    rw [e] at h0
    injection h0 with h0
    subst h0
    exact hbg
theorem Amp.cells {α : Type} {c : α → List Value} {n : Nat} {z : List Value} {t : TypeId} {w : World} {b : Nat} {l : List α} {f : α} (h : Amp c z t w b l f) (hc : ∀ y, (c y).length = n) (hz : z.length = n) : ∃ cs, w.heap[b]? = some (.cells cs t (0, 0)) ∧ cs.size = (l.length + 3) * n := by
  refine ⟨_, h, ?_⟩
  simp only [List.size_toArray, List.length_append, flat_length hc, hc, hz, Nat.add_mul]
  omega
end Go.Proofs.YtpfmfigommmjiaaDoor
namespace Go.Proofs.YtpfmfigommmjiaaDoor
open Go.RowKit Plain Go.Maps Go.ChangeMaps
set_option linter.unusedVariables false
set_option linter.unusedSimpArgs false
structure FrR (R : Nat) (ob ob' : Option Nat) (w w' : World) : Prop where
  os : w'.os = w.os
  tape : w'.tape = w.tape
  output : w'.output = w.output
  size : w.heap.size ≤ w'.heap.size
  block : ∀ k, k < w.heap.size → k ≠ R → some k ≠ ob → w'.heap[k]? = w.heap[k]?
  next : ob' = ob ∨ ∃ g, ob' = some g ∧ w.heap.size ≤ g
theorem FrR.refl (R : Nat) (ob : Option Nat) (w : World) : FrR R ob ob w w := ⟨rfl, rfl, rfl, Nat.le_refl _, fun _ _ _ _ => rfl, .inl rfl⟩
theorem FrR.of_below {R : Nat} {ob : Option Nat} {w w' : World} (h : Below w.heap.size w w') : FrR R ob ob w w' := ⟨h.os, h.tape, h.output, h.size, fun k hk _ _ => h.block k hk, .inl rfl⟩
theorem FrR.trans {R : Nat} {ob ob' ob2 : Option Nat} {a b c : World} (h : FrR R ob ob' a b) (g : FrR R ob' ob2 b c) : FrR R ob ob2 a c := by
  refine ⟨g.os.trans h.os, g.tape.trans h.tape, g.output.trans h.output, Nat.le_trans h.size g.size, fun k hk hne hob => ?_, ?_⟩
  · have hs := h.size
    rw [g.block k (by omega) hne (fun e => ?_), h.block k hk hne hob]
    rcases h.next with e2 | ⟨x, e2, hx⟩
    · exact hob (by rw [← e2, ← e])
    · rw [e2] at e; injection e with e; omega
  · rcases g.next with e | ⟨x, e, hx⟩
    · rcases h.next with e2 | ⟨x, e2, hx⟩
      · exact .inl (e.trans e2)
      · exact .inr ⟨x, e.trans e2, hx⟩
    · exact .inr ⟨x, e, Nat.le_trans h.size hx⟩
theorem FrR.below {R : Nat} {ob ob' : Option Nat} {w w' : World} (h : FrR R ob ob' w w') {B : Nat} (hR : B ≤ R) (hob : ∀ g, ob = some g → B ≤ g) (hB : B ≤ w.heap.size) : Below B w w' :=
  ⟨h.os, h.tape, h.output, h.size, fun k hk => h.block k (by omega) (by omega) (fun e => by have := hob k e.symm; omega)⟩
end Go.Proofs.YtpfmfigommmjiaaDoor
namespace Go.Proofs.YtpfmfigommmjiaaDoor
open Go.RowKit Plain Go.Maps Go.ChangeMaps
set_option linter.unusedVariables false
set_option linter.unusedSimpArgs false
end Go.Proofs.YtpfmfigommmjiaaDoor
namespace Go.Proofs.YtpfmfigommmjiaaDoor
open Go.RowKit Plain Go.ChangeMaps
set_option linter.unusedVariables false
set_option linter.unusedSimpArgs false
section
variable {α : Type} (vf : α → Value)
end
end Go.Proofs.YtpfmfigommmjiaaDoor
namespace Go.Proofs.YtpfmfigommmjiaaDoor
open Go.RowKit Plain Go.Maps Go.ChangeMaps
set_option linter.unusedVariables false
set_option linter.unusedSimpArgs false
def Cons (l : List Bl) : Prop := (∀ b ∈ l, pcode b = 0) ∧ ∀ b ∈ l, ∀ c ∈ l, pidL b = pidL c → b = c
theorem Cons.nil : Cons [] := ⟨by simp, by simp⟩
def lkL (l : List Bl) (id : List Nat) : Option Bl := l.find? (fun b => pidL b == id)
theorem lkL_some {l : List Bl} {id : List Nat} {b : Bl} (h : lkL l id = some b) : b ∈ l ∧ pidL b = id := ⟨List.mem_of_find?_eq_some h, by have := List.find?_some h; simpa using this⟩
theorem Cons.lk {l : List Bl} (h : Cons l) {b : Bl} (hb : b ∈ l) : lkL l (pidL b) = some b := by
  cases hq : lkL l (pidL b) with
  | none => have := List.find?_eq_none.1 hq b hb; simp at this
  | some c =>
    obtain ⟨h1, h2⟩ := lkL_some hq
    rw [h.2 c h1 b hb h2]
theorem Cons.snoc {l : List Bl} {b : Bl} (h : Cons l) (hp : pcode b = 0) (hq : ∀ c, lkL l (pidL b) = some c → c = b) : Cons (l ++ [b]) := by
  have key : ∀ c ∈ l, pidL c = pidL b → c = b := fun c hc e => hq c (by rw [← e]; exact h.lk hc)
  refine ⟨fun c hc => ?_, fun c hc d hd e => ?_⟩
  · rcases List.mem_append.1 hc with hc | hc
    · exact h.1 c hc
    · rw [List.mem_singleton] at hc; subst hc; exact hp
  · rcases List.mem_append.1 hc with hc | hc
    · rcases List.mem_append.1 hd with hd | hd
      · exact h.2 c hc d hd e
      · rw [List.mem_singleton] at hd; rw [hd] at e ⊢; exact key c hc e
    · rw [List.mem_singleton] at hc
      subst hc
      rcases List.mem_append.1 hd with hd | hd
      · exact (key d hd e.symm).symm
      · rw [List.mem_singleton] at hd; exact hd.symm
theorem lkL_snoc (l : List Bl) (b : Bl) (id : List Nat) : lkL (l ++ [b]) id = (match lkL l id with | some x => some x | none => if pidL b = id then some b else none) := by
  unfold lkL
  rw [List.find?_append]
  cases l.find? (fun b => pidL b == id) with
  | some e => rfl
  | none => by_cases h : pidL b = id <;> simp [h]
def HpM (l : List Bl) (es : List (List Nat × Bl)) : Prop := (∀ e ∈ es, e.1.length = 8) ∧ ∀ id, ilk es id = lkL l id
theorem HpM.nil : HpM [] [] := ⟨by simp, fun _ => rfl⟩
theorem HpM.new {l : List Bl} {es : List (List Nat × Bl)} (h : HpM l es) (b : Bl) : HpM (l ++ [b]) (es ++ [(pidL b, b)]) := by
  refine ⟨fun e he => ?_, fun id => ?_⟩
  · rcases List.mem_append.1 he with he | he
    · exact h.1 e he
    · rw [List.mem_singleton] at he; subst he; exact pidL_length b
  · rw [ilk_snoc, lkL_snoc, h.2 id]
    cases lkL l id <;> rfl
theorem HpM.same {l : List Bl} {es : List (List Nat × Bl)} (h : HpM l es) {b : Bl} (hb : lkL l (pidL b) = some b) : HpM (l ++ [b]) es := by
  refine ⟨h.1, fun id => ?_⟩
  rw [lkL_snoc, h.2 id]
  cases hq : lkL l id with
  | some x => rfl
  | none =>
    by_cases e : pidL b = id
    · subst e; rw [hq] at hb; cases hb
    · simp [e]
end Go.Proofs.YtpfmfigommmjiaaDoor
namespace Go.Proofs.YtpfmfigommmjiaaDoor
open Go.RowKit Plain Go.Maps
set_option linter.unusedVariables false
set_option linter.unusedSimpArgs false
def ptsOf (ms : List MN) : List (List Nat) := ms.flatMap fun m => (idsN m).map idL
theorem ptsOf_nd (ms : List MN) : ptsOf ms = (ms.map ndOf).flatMap (·.2.2.2.2.2.1) := by
  unfold ptsOf
  rw [List.flatMap_map]
  rfl
def Nds (b : Bl) (id : List Nat) : Prop := b.1 = 2 ∧ ∃ ms, ROk b.2 ms ∧ id ∈ ptsOf ms
theorem nds_data (s : ByteArray) (id : List Nat) : ¬ Nds (dB s) id := fun h => by cases h.1
inductive OrdS : List Bl → Prop
  | nil : OrdS []
  | snoc {S : List Bl} {b : Bl} : OrdS S → (∀ id, Nds b id → ∃ c ∈ S, pidL c = id) → OrdS (S ++ [b])
theorem OrdS.data (l : List ByteArray) : OrdS (l.map dB) := by
  have key : ∀ (n : Nat) (l : List ByteArray), l.length = n → OrdS (l.map dB) := by
    intro n
    induction n with
    | zero => intro l h; rw [List.length_eq_zero_iff.1 h]; exact .nil
    | succ n ih =>
      intro l h
      have hne : l ≠ [] := by intro g; rw [g] at h; cases h
      rw [← List.dropLast_concat_getLast hne, List.map_append]
      exact .snoc (ih _ (by rw [List.length_dropLast]; omega)) fun id hid => absurd hid (nds_data _ _)
  exact key _ l rfl
end Go.Proofs.YtpfmfigommmjiaaDoor
namespace Go.Proofs.YtpfmfigommmjiaaDoor
open Go.RowKit Plain Go.Maps
set_option linter.unusedVariables false
set_option linter.unusedSimpArgs false
end Go.Proofs.YtpfmfigommmjiaaDoor
namespace Go.Proofs.YtpfmfigommmjiaaDoor
open Go.RowKit Plain Go.Maps
set_option linter.unusedVariables false
set_option linter.unusedSimpArgs false
theorem IdsOk.cons {l : List Bl} (h : IdsOk l) : Cons l := ⟨h.1, fun b hb c hc e => ids_inj h hb hc e⟩
def ddp (l : List (List Nat)) : List (List Nat) := l.foldl (fun o x => if x ∈ o then o else o ++ [x]) []
theorem ddp_snoc (l : List (List Nat)) (x : List Nat) : ddp (l ++ [x]) = if x ∈ ddp l then ddp l else ddp l ++ [x] := by
  unfold ddp
  rw [List.foldl_append]
  rfl
theorem ddp_nil : ddp [] = [] := rfl
theorem ddp_mem (x : List Nat) : ∀ (l : List (List Nat)), x ∈ ddp l ↔ x ∈ l := by
  intro l
  generalize hn : l.length = n
  induction n generalizing l with
  | zero => obtain rfl := List.eq_nil_of_length_eq_zero hn; simp [ddp_nil]
  | succ n ih =>
    have hne : l ≠ [] := fun e => by rw [e] at hn; cases hn
    rw [← List.dropLast_concat_getLast hne, ddp_snoc]
    have h1 := ih l.dropLast (by rw [List.length_dropLast]; omega)
    generalize l.dropLast = m at *
    generalize l.getLast hne = z at *
    by_cases hz : z ∈ ddp m
    · rw [if_pos hz]
      by_cases e : x = z
      · subst e; simp [hz]
      · simp [h1, e]
    · rw [if_neg hz]
      simp [h1]
open Classical in
noncomputable def ndF (b : Bl) : List (List Nat) := if h : b.1 = 2 ∧ ∃ ms, ROk b.2 ms then ddp (ptsOf h.2.choose) else []
theorem ndF_of {t : ByteArray} {ms : List MN} (h : ROk t ms) : ndF (2, t) = ddp (ptsOf ms) := by
  unfold ndF
  have hx : ((2 : Int), t).1 = 2 ∧ ∃ ms, ROk ((2 : Int), t).2 ms := ⟨rfl, ms, h⟩
  rw [dif_pos hx, ptsOf_nd, ptsOf_nd, hx.2.choose_spec.same h]
theorem ndF_data {b : Bl} (h : b.1 ≠ 2) : ndF b = [] := by
  unfold ndF
  rw [dif_neg (fun g => h g.1)]
end Go.Proofs.YtpfmfigommmjiaaDoor
namespace Go.Proofs.YtpfmfigommmjiaaDoor
open Go.RowKit Plain Go.Maps
set_option linter.unusedVariables false
set_option linter.unusedSimpArgs false
section
variable {P : Program} {w : World}
end
end Go.Proofs.YtpfmfigommmjiaaDoor
