/- Joined: IdMap, WalkMem, WalkPut. -/
import Derived.Test.YtbfoonfbhebhfaaGreatDoorKGnU
import Derived.DeepKeys3
import Derived.MapKept
import Derived.ChangeMaps5
import Derived.ChangeKeysEq
import Derived.Test.YtbfoonfbhebhfaaGreatDoorKGnX
import Derived.Maps.AppendAt
import Derived.StillTailTactics
namespace Go.Proofs.YtbfoonfbhebhfaaGreatDoor
open Go.RowKit Plain Go.ChangeMaps
set_option linter.unusedVariables false
set_option linter.unusedSimpArgs false
section
variable {α : Type} (vf : α → Value)
def ieM (p : (List Nat × α) × Nat) : MapEntry := { key := .agg (bC p.1.1), val := vf p.1.2, born := p.2 }
def imE (es : List (List Nat × α)) : Array MapEntry := (es.zipIdx.map (ieM vf)).toArray
def imO (es : List (List Nat × α)) : Obj := .map (imE vf es) es.length
def ilk (es : List (List Nat × α)) (k : List Nat) : Option α := (es.find? (fun e => e.1 == k)).map (·.2)
theorem imE_push (es : List (List Nat × α)) (k : List Nat) (v : α) : (imE vf es).push { key := .agg (bC k), val := vf v, born := es.length } = imE vf (es ++ [(k, v)]) := by
 simp [imE, List.zipIdx_append, ieM]
theorem imO_nil : imO vf [] = .map #[] 0 := rfl
theorem ilk_snoc (es : List (List Nat × α)) (k : List Nat) (v : α) (q : List Nat) : ilk (es ++ [(k, v)]) q = (match ilk es q with | some x => some x | none => if k = q then some v else none) := by
 unfold ilk
 rw [List.find?_append]
 cases h : es.find? (fun e => e.1 == q) with
 | some e => simp
 | none =>
  by_cases hq : k = q
  ·
   simp [hq]
  ·
   simp [hq]
theorem ilk_mem {es : List (List Nat × α)} {k : List Nat} {v : α} (h : ilk es k = some v) : (k, v) ∈ es := by
 unfold ilk at h
 cases hf : es.find? (fun e => e.1 == k) with
 | none => rw [hf] at h; cases h
 | some e =>
  rw [hf] at h
  have h1 := List.find?_some hf
  have h2 := List.mem_of_find?_eq_some hf
  obtain ⟨ek, ex⟩ := e
  have e1 : ek = k := by simpa using h1
  have e2 : ex = v := by simpa using h
  subst e1 e2
  exact h2
theorem ilk_none {es : List (List Nat × α)} {k : List Nat} (h : ilk es k = none) (v : α) : (k, v) ∉ es := by
 intro hm
 unfold ilk at h
 have : es.find? (fun e => e.1 == k) = none := by simpa using h
 have := List.find?_eq_none.1 this _ hm
 simp at this
theorem info_u8I : ∃ i, Tryz.prog.info? 5 = some i := by
 have h : (Tryz.prog.info? 5).isSome = true := by kernel_rfl
 exact Option.isSome_iff_exists.1 h
theorem cells_u8I : Tryz.prog.cellsOf 5 = 1 := by kernel_rfl
theorem equal_id8 (w : World) (a b : List Nat) (ha : a.length = 8) (hb : b.length = 8) : (Op.equal 30 (.agg (bC a)) (.agg (bC b))).run Tryz.prog w = .ok (decide (a = b)) w := by
 obtain ⟨inf, hi⟩ := info_u8I
 exact run_equal_bytes w Tryz.underlying30 Tryz.underlying5 hi cells_u8I a b ha hb
theorem eql_id8 (w : World) (a b : List Nat) (ha : a.length = 8) (hb : b.length = 8) : (binOp .eql 30 (.agg (bC a)) (.agg (bC b))).run Tryz.prog w = .ok (.bool (decide (a = b))) w := by
 obtain ⟨inf, hi⟩ := info_u8I
 exact run_eql_bytes w Tryz.underlying30 Tryz.underlying5 hi cells_u8I a b ha hb
theorem neq_id8 (w : World) (a b : List Nat) (ha : a.length = 8) (hb : b.length = 8) : (binOp .neq 30 (.agg (bC a)) (.agg (bC b))).run Tryz.prog w = .ok (.bool (!decide (a = b))) w := by
 unfold binOp
 simp only [Sem.run_bind, equal_id8 w a b ha hb, Result.andThen_ok, Sem.run_pure]
theorem find_id8 (w : World) (k : List Nat) (hk : k.length = 8) : ∀ (l : List ((List Nat × α) × Nat)) (i : Nat), (∀ p ∈ l, p.1.1.length = 8) → (ilk (l.map (·.1)) k = none ∧ (Instr.findAsking 30 (.agg (bC k)) (l.map (ieM vf)) i).run Tryz.prog w = .ok none w) ∨
  (∃ x, ilk (l.map (·.1)) k = some x ∧ ∃ j, (Instr.findAsking 30 (.agg (bC k)) (l.map (ieM vf)) i).run Tryz.prog w = .ok (some (j, vf x)) w)
 | [], i, _ => .inl ⟨rfl, by simp [Instr.findAsking]⟩
 | p :: l, i, hp => by
  have hp0 := hp p (by simp)
  have he := equal_id8 w k p.1.1 hk hp0
  by_cases e : k = p.1.1
  ·
   right
   refine ⟨p.1.2, ?_, i, ?_⟩
   ·
    unfold ilk; rw [List.map_cons, List.find?_cons_of_pos (by simp [e])]; rfl
   ·
    rw [decide_eq_true e] at he
    simp only [List.map_cons, Instr.findAsking, Sem.run_bind, ieM, he, Result.andThen_ok, if_true, Sem.run_pure]
  ·
   rw [decide_eq_false e] at he
   have hl : ilk ((p :: l).map (·.1)) k = ilk (l.map (·.1)) k := by
    unfold ilk
    rw [List.map_cons, List.find?_cons_of_neg (by simp; exact fun h => e h.symm)]
   rw [hl]
   have hq : (Instr.findAsking 30 (.agg (bC k)) ((p :: l).map (ieM vf)) i).run Tryz.prog w = (Instr.findAsking 30 (.agg (bC k)) (l.map (ieM vf)) (i + 1)).run Tryz.prog w := by
    simp only [List.map_cons, Instr.findAsking, Sem.run_bind, ieM, he, Result.andThen_ok, Bool.false_eq_true, if_false]
   rw [hq]
   exact find_id8 w k hk l (i + 1) (fun q hq => hp q (by simp [hq]))
theorem zip_fstI (es : List (List Nat × α)) : es.zipIdx.map (·.1) = es := by
 have : (fun p : (List Nat × α) × Nat => p.1) = Prod.fst := rfl
 rw [this]; simp
theorem findKey_id8 (w : World) (k : List Nat) (es : List (List Nat × α)) (hk : k.length = 8) (hes : ∀ e ∈ es, e.1.length = 8) : (ilk es k = none ∧ (Instr.findKey 30 (.agg (bC k)) (imE vf es).toList).run Tryz.prog w = .ok none w) ∨ (∃ x, ilk es k = some x ∧ ∃ j, (Instr.findKey 30 (.agg (bC k)) (imE vf es).toList).run Tryz.prog w = .ok (some (j, vf x)) w) := by
 have hq := run_findKey_eq (P := Tryz.prog) (w := w) (k := 30) (by rw [Tryz.underlying30]) (.agg (bC k)) (imE vf es).toList
 rw [hq]
 have := find_id8 vf w k hk es.zipIdx 0 (fun p hp => by
  have h1 : p.1 ∈ es.zipIdx.map (·.1) := List.mem_map.2 ⟨p, hp, rfl⟩
  rw [zip_fstI] at h1
  exact hes _ h1)
 rw [zip_fstI] at this
 exact this
theorem checkKeyI_u8 (w : World) (em : Bool) (d : Nat) (x : Int) : (Instr.checkKey em (d + 1) 5 (.int .u8 x)).run Tryz.prog w = .ok () w := by
 rw [Instr.checkKey]
 simp only [Sem.run_bind, run_underlying Tryz.underlying5, Result.andThen_ok, Sem.run_pure]
theorem checkKeyI_d (w : World) (em : Bool) (d : Nat) (k : List Nat) (hk : k.length = 8) : (Instr.checkKey em (d + 1 + 1) 30 (.agg (bC k))).run Tryz.prog w = .ok () w := by
 obtain ⟨inf, hi⟩ := info_u8I
 have hp : ∀ i, i < 8 → (part 5 (bC k) i).run Tryz.prog w = .ok (.int .u8 ((k.getD i 0 : Nat) : Int)) w := fun i h => run_part_byte w Tryz.underlying5 k i (by omega)
 rw [Instr.checkKey]
 simp only [Sem.run_bind, run_underlying Tryz.underlying30, Result.andThen_ok]
 simp only [Std.Legacy.Range.forIn_eq_forIn_range', Std.Legacy.Range.size, Nat.sub_zero, Nat.add_one_sub_one, Nat.div_one]
 have h2 : List.range' 0 8 = [0, 1, 2, 3, 4, 5, 6, 7] := rfl
 rw [h2]
 simp only [List.forIn_cons, List.forIn_nil, Sem.run_bind, run_sizeOf w hi, cells_u8I, Nat.mul_one, Result.andThen_ok, hp 0 (by decide), hp 1 (by decide), hp 2 (by decide), hp 3 (by decide), hp 4 (by decide), hp 5 (by decide), hp 6 (by decide), hp 7 (by decide), checkKeyI_u8, Sem.run_pure]
theorem checkKey_id8 (w : World) (em : Bool) (k : List Nat) (hk : k.length = 8) : (Instr.checkKey em 10000 30 (.agg (bC k))).run Tryz.prog w = .ok () w := checkKeyI_d w em 9998 k hk
theorem look_id2 {w : World} {b : Nat} {mt et : TypeId} {z : Value} {es : List (List Nat × α)} (hm : Tryz.prog.underlying mt = some (.map 30 et)) (hz : (zeroValue et).run Tryz.prog w = .ok z w) (hb : w.heap[b]? = some (imO vf es)) (k : List Nat) (hk : k.length = 8) (hes : ∀ e ∈ es, e.1.length = 8) :
  (Instr.lookup mt (.map (some b)) (.agg (bC k)) true).run Tryz.prog w = .ok (.tuple #[((ilk es k).map vf).getD z, .bool (ilk es k).isSome]) w := by
 have hf := findKey_id8 vf w k es hk hes
 have hg := MapKept.run_getObj_map (P := Tryz.prog) hb
 unfold Instr.lookup
 simp only [Sem.run_bind, run_underlying hm, hg, Result.andThen_ok, checkKey_id8 w _ k hk, Sem.run_pure]
 rcases hf with ⟨h1, h2⟩ | ⟨x, h1, j, h2⟩
 ·
  simp [h2, hz, h1, Result.andThen]
 ·
  simp [h2, h1, Result.andThen]
theorem look_id1 {w : World} {b : Nat} {mt et : TypeId} {z : Value} {es : List (List Nat × α)} (hm : Tryz.prog.underlying mt = some (.map 30 et)) (hz : (zeroValue et).run Tryz.prog w = .ok z w) (hb : w.heap[b]? = some (imO vf es)) (k : List Nat) (hk : k.length = 8) (hes : ∀ e ∈ es, e.1.length = 8) :
  (Instr.lookup mt (.map (some b)) (.agg (bC k)) false).run Tryz.prog w = .ok (((ilk es k).map vf).getD z) w := by
 have hf := findKey_id8 vf w k es hk hes
 have hg := MapKept.run_getObj_map (P := Tryz.prog) hb
 unfold Instr.lookup
 simp only [Sem.run_bind, run_underlying hm, hg, Result.andThen_ok, checkKey_id8 w _ k hk, Sem.run_pure]
 rcases hf with ⟨h1, h2⟩ | ⟨x, h1, j, h2⟩
 ·
  simp [h2, hz, h1, Result.andThen]
 ·
  simp [h2, h1, Result.andThen]
theorem put_id8 {w : World} {b : Nat} {mt et : TypeId} {es : List (List Nat × α)} (hm : Tryz.prog.underlying mt = some (.map 30 et)) (hb : w.heap[b]? = some (imO vf es)) (k : List Nat) (v : α) (hk : k.length = 8) (hes : ∀ e ∈ es, e.1.length = 8) (hn : ilk es k = none) :
  (Instr.mapUpdate mt (.map (some b)) (.agg (bC k)) (vf v)).run Tryz.prog w = .ok () (setBlock w b (imO vf (es ++ [(k, v)]))) := by
 have hf := findKey_id8 vf w k es hk hes
 have hg := MapKept.run_getObj_map (P := Tryz.prog) hb
 have hs := MapKept.run_setObj_map (P := Tryz.prog) (imO vf (es ++ [(k, v)])) hb
 rcases hf with ⟨_, h2⟩ | ⟨x, h1, _⟩
 ·
  unfold Instr.mapUpdate
  simp only [Sem.run_bind, run_underlying hm, hg, Result.andThen_ok, checkKey_id8 w _ k hk, h2, imE_push]
  rw [show Obj.map (imE vf (es ++ [(k, v)])) (es.length + 1) = imO vf (es ++ [(k, v)]) by simp [imO]]
  exact hs
 ·
  rw [h1] at hn; cases hn
theorem setBlockI_same {w : World} {b : Nat} {es : List (List Nat × α)} (hb : w.heap[b]? = some (imO vf es)) (o : Obj) : (setBlock w b o).heap[b]? = some o := heap_setBlock_same hb o
theorem setBlockI_other {w : World} {b : Nat} (o : Obj) {i : Nat} (h : i ≠ b) : (setBlock w b o).heap[i]? = w.heap[i]? := by
 simp only [setBlock]
 rw [Array.getElem?_setIfInBounds_ne (by omega)]
theorem below_setBlockI {w0 w : World} {B b : Nat} (h : Below B w0 w) (hb : B ≤ b) (o : Obj) : Below B w0 (setBlock w b o) where
 os := h.os
 tape := h.tape
 output := h.output
 size := by have := h.size; simpa [setBlock] using this
 block k hk := by rw [setBlockI_other o (by omega)]; exact h.block k hk
end
end Go.Proofs.YtbfoonfbhebhfaaGreatDoor
namespace Go.Proofs.YtbfoonfbhebhfaaGreatDoor
open Go.RowKit Plain Go.Maps Go.ChangeMaps
set_option linter.unusedVariables false
set_option linter.unusedSimpArgs false
theorem lt_of_blockW {w : World} {b : Nat} {o : Obj} (h : w.heap[b]? = some o) : b < w.heap.size := (Array.getElem?_eq_some_iff.1 h).1
theorem own_of_block {w w' : World} {base : Nat} {e : TypeId} {k : Nat} {v : Value} {n : Nat} {xs : List Value} (h : w.ownsRow base e k v n xs) (hb : ∀ (g : Nat) (cs : Array Value), v.ownBlock = some g → w.heap[g]? = some (Obj.cells cs e (0, 0)) → w'.heap[g]? = w.heap[g]?) : w'.ownsRow base e k v n xs := by
 refine ⟨h.1, ?_⟩
 rcases h.2 with hv | ⟨g, cap, cur, hv, hB, hg, h3⟩
 ·
  exact .inl hv
 ·
  exact .inr ⟨g, cap, cur, hv, hB, (hb g cur (by rw [hv]; rfl) hg).trans hg, h3⟩
theorem own_typ {w : World} {base : Nat} {e : TypeId} {k : Nat} {v : Value} {n : Nat} {xs : List Value} (h : w.ownsRow base e k v n xs) {g : Nat} (hg : v.ownBlock = some g) : base ≤ g ∧ g < w.heap.size ∧ ∃ cs, w.heap[g]? = some (Obj.cells cs e (0, 0)) := by
 rcases h.2 with ⟨rfl, _⟩ | ⟨g', cap, cur, rfl, hB, hh, _⟩
 ·
  cases hg
 ·
  injection hg with hg
  subst hg
  exact ⟨hB, lt_of_block hh, cur, hh⟩
abbrev HM (w : World) (b n : Nat) (D : DataW Value) : Prop := w.ownsMap Tryz.prog 9 (fun v => some (.held v, [])) b n D
theorem key_strW (k : ByteArray) (hk : k.size ≤ maxLen) : keyOf Tryz.prog 9 (.string k) = some (.string k.data.toList) := Go.WideMaps.keyOf_string_mk Tryz.underlying9 hk
theorem HM.of_block {w w' : World} {b n : Nat} {D : DataW Value} (h : HM w b n D) (e : w'.heap[b]? = w.heap[b]?) : HM w' b n D := by
 obtain ⟨es, clock, hb, rest⟩ := h
 exact ⟨es, clock, e.trans hb, rest⟩
theorem zero_itsW (w : World) : (zeroValue 26).run Tryz.prog w = .ok (.slice none 0 0) w := by kernel_rfl
theorem hm_look {w : World} {b n : Nat} {D : DataW Value} (h : HM w b n D) (q : ByteArray) (hq : q.size ≤ maxLen) {v : Value} (hv : D.atKey (.string q.data.toList) (.held (.slice none 0 0)) = .held v) :
  (Instr.lookup 96 (.map (some b)) (.string q) false).run Tryz.prog w = .ok v w := by
 obtain ⟨v', ps, hrun, hR⟩ := h.lookup law_strB Tryz.underlying96 (zero_itsW w) (zd := .held (.slice none 0 0)) (zp := []) rfl (key_strW q hq)
 simp only [Option.some.injEq, Prod.mk.injEq] at hR
 rw [hv] at hR
 have e := DataW.held.inj hR.1
 rw [hrun, e]
set_option maxRecDepth 100000 in
theorem hm_put {w : World} {b n : Nat} {D : DataW Value} (h : HM w b n D) (hn : n < maxLen) (q : ByteArray) (hq : q.size ≤ maxLen) (v : Value) :
  ∃ w', (Instr.mapUpdate 96 (.map (some b)) (.string q) v).run Tryz.prog w = .ok () w' ∧ HM w' b (n + 1) (D.put (.string q.data.toList) (.held v)) ∧ w.grownBy w' (some b) :=
 World.ownsMap.update (R := fun v => some (.held v, [])) (val := v) (d := .held v) (ps := []) h law_strB Tryz.underlying96 hn (key_strW q hq) rfl
def kidsQ (w : List It) (q : ByteArray) : List It := w.filter fun x => decide (parent x.1 = q)
theorem kidsQ_eq {w : List It} (hw : ∀ x ∈ w, icode x = 0) {k : KT} (hk : ∀ a ∈ k, 47 ∉ a) : kidsQ w (pthB k) = kidsW w k := by
 unfold kidsQ kidsW
 apply List.filter_congr
 intro x hx
 obtain ⟨f0, f1, _⟩ := icode_facts (hw x hx)
 rw [parent_nk f0 f1]
 congr 1
 rw [eq_iff_iff]
 constructor
 ·
  intro h
  have := congrArg bT h
  rw [bT_pthB, bT_pthB] at this
  exact pthT_inj (fun a ha => nk_noslash f0 a (List.dropLast_subset _ ha)) hk this
 ·
  intro h; rw [h]
def KidAt (base K : Nat) (wl : List It) (w : World) : Prop := ∃ (n : Nat) (D : DataW Value) (a : ByteArray → Option Addr) (c : ByteArray → Nat), HM w K n D ∧ IsMap D ∧ n ≤ wl.length ∧
 (∀ q : ByteArray, D.atKey (.string q.data.toList) (.held (.slice none 0 0)) = .held (.slice (a q) (kidsQ wl q).length (c q)) ∧ w.ownsRow base 40 5 (.slice (a q) (kidsQ wl q).length (c q)) (kidsQ wl q).length ((kidsQ wl q).flatMap iC)) ∧
 ∀ q q' : ByteArray, q ≠ q' → ∀ g, (Value.slice (a q) (kidsQ wl q).length (c q)).ownBlock = some g → (Value.slice (a q') (kidsQ wl q').length (c q')).ownBlock ≠ some g
def FrP (base M : Nat) (w w' : World) : Prop := Below base w w' ∧ (∀ (k : Nat) (cs : Array Value) (t : TypeId) (fr : Nat × Nat), w.heap[k]? = some (Obj.cells cs t fr) → t ≠ 99 → t ≠ 37 → w'.heap[k]? = some (Obj.cells cs t fr)) ∧ ∀ (k : Nat) (es : Array MapEntry) (cl : Nat), w.heap[k]? = some (Obj.map es cl) → k ≠ M → w'.heap[k]? = some (Obj.map es cl)
theorem FrP.refl (base M : Nat) (w : World) : FrP base M w w := ⟨Below.refl _ _, fun _ _ _ _ h _ _ => h, fun _ _ _ h _ => h⟩
theorem FrP.trans {base M : Nat} {a b c : World} (h : FrP base M a b) (g : FrP base M b c) : FrP base M a c := ⟨h.1.trans g.1, fun k cs t fr h1 h2 h3 => g.2.1 k cs t fr (h.2.1 k cs t fr h1 h2 h3) h2 h3, fun k es cl h1 h2 => g.2.2 k es cl (h.2.2 k es cl h1 h2) h2⟩
theorem FrP.of_below {base M : Nat} {w w' : World} (h : Below w.heap.size w w') (hb : base ≤ w.heap.size) : FrP base M w w' := ⟨h.mono hb, fun k cs t fr h1 _ _ => (h.block k (lt_of_block h1)).trans h1, fun k es cl h1 _ => (h.block k (lt_of_block h1)).trans h1⟩
theorem FrP.own {base M : Nat} {w w' : World} (hf : FrP base M w w') {base' : Nat} {e : TypeId} {k : Nat} {v : Value} {n : Nat} {xs : List Value} (h : w.ownsRow base' e k v n xs) (h1 : e ≠ 99) (h2 : e ≠ 37) : w'.ownsRow base' e k v n xs :=
 own_of_block h fun g cs _ hg => (hf.2.1 g cs e _ hg h1 h2).trans hg.symm
theorem HM.fr {base M : Nat} {w w' : World} (hf : FrP base M w w') {K n : Nat} {D : DataW Value} (h : HM w K n D) (hk : K ≠ M) : HM w' K n D := by
 have h0 := h
 obtain ⟨es, clock, hb, rest⟩ := h
 exact h0.of_block ((hf.2.2 K es clock hb hk).trans hb.symm)
theorem KidAt.fr {base K M : Nat} {wl : List It} {w w' : World} (h : KidAt base K wl w) (hf : FrP base M w w') (hk : K ≠ M) : KidAt base K wl w' := by
 obtain ⟨n, D, a, c, h1, h2, h3, h4, h5⟩ := h
 exact ⟨n, D, a, c, h1.fr hf hk, h2, h3, fun q => ⟨(h4 q).1, hf.own (h4 q).2 (by decide) (by decide)⟩, h5⟩
theorem KidAt.lt {base K : Nat} {wl : List It} {w : World} (h : KidAt base K wl w) : K < w.heap.size := by
 obtain ⟨n, D, a, c, h1, _⟩ := h
 exact h1.lt
theorem KidAt.below {base K : Nat} {wl : List It} {w w' : World} (h : KidAt base K wl w) (hb : Below w.heap.size w w') : KidAt base K wl w' := by
 obtain ⟨n, D, a, c, h1, h2, h3, h4, h5⟩ := h
 exact ⟨n, D, a, c, h1.of_block (hb.block K h1.lt), h2, h3, fun q => ⟨(h4 q).1, own_belowK (h4 q).2 hb⟩, h5⟩
def blV (b : Bl) : Value := .agg (blC b).toArray
def Plr (w : World) (P : Nat) (y : Wy) (K M : Nat) (oa : Option Addr) (on oc : Nat) (e : Int) : Prop := w.heap[P]? = some (.cells #[.int .i64 y.1, .int .i64 y.2.1, .int .i64 y.2.2.1, .int .i64 y.2.2.2, .map (some K), .slice oa on oc, .map (some M), .int .i64 e] 99 (0, 0))
theorem Plr.cells {w : World} {P : Nat} {y : Wy} {K M : Nat} {oa : Option Addr} {on oc : Nat} {e : Int} (h : Plr w P y K M oa on oc e) :
  w.cell? ⟨P, 0, none⟩ = some (.int .i64 y.1) ∧ w.cell? ⟨P, 1, none⟩ = some (.int .i64 y.2.1) ∧ w.cell? ⟨P, 2, none⟩ = some (.int .i64 y.2.2.1) ∧ w.cell? ⟨P, 3, none⟩ = some (.int .i64 y.2.2.2) ∧ w.cell? ⟨P, 4, none⟩ = some (.map (some K)) ∧ w.cell? ⟨P, 5, none⟩ = some (.slice oa on oc) ∧ w.cell? ⟨P, 6, none⟩ = some (.map (some M)) ∧ w.cell? ⟨P, 7, none⟩ = some (.int .i64 e) := by
 have c0 := cell_of_row _ _ 0 _ _ _ h
 have c1 := cell_of_row _ _ 1 _ _ _ h
 have c2 := cell_of_row _ _ 2 _ _ _ h
 have c3 := cell_of_row _ _ 3 _ _ _ h
 have c4 := cell_of_row _ _ 4 _ _ _ h
 have c5 := cell_of_row _ _ 5 _ _ _ h
 have c6 := cell_of_row _ _ 6 _ _ _ h
 have c7 := cell_of_row _ _ 7 _ _ _ h
 simp only [List.getElem?_toArray, List.getElem?_cons_zero, List.getElem?_cons_succ] at c0 c1 c2 c3 c4 c5 c6 c7
 exact ⟨c0, c1, c2, c3, c4, c5, c6, c7⟩
def PSX (base P K M : Nat) (y : Wy) (wl : List It) (es : List (List Nat × Bl)) (out : List Bl) (oa : Option Addr) (oc : Nat) (e : Int) (w : World) : Prop :=
 Plr w P y K M oa out.length oc e ∧ w.ownsRow base 37 2 (.slice oa out.length oc) out.length (out.flatMap blC) ∧ w.heap[M]? = some (imO blV es) ∧ KidAt base K wl w ∧ (base ≤ P ∧ base ≤ K ∧ base ≤ M ∧ K ≠ M)
def esOf (out : List Bl) : List (List Nat × Bl) := out.map fun b => (pidL b, b)
def PS (base P K M : Nat) (y : Wy) (wl : List It) (c : Nat) (st : Option (List Bl)) (w : World) : Prop := ∃ out oa oc e, PSX base P K M y wl (esOf out) out oa oc e w ∧ out.length ≤ c ∧ IdsOk out ∧ ((st = some out ∧ e = 0) ∨ (st = none ∧ e ≠ 0))
theorem PSX.base_le {base P K M : Nat} {y : Wy} {wl : List It} {es : List (List Nat × Bl)} {out : List Bl} {oa : Option Addr} {oc : Nat} {e : Int} {w : World} (h : PSX base P K M y wl es out oa oc e w) : base ≤ w.heap.size := by
 have := lt_of_block h.1
 have := h.2.2.2.2.1
 omega
theorem PSX.below {base P K M : Nat} {y : Wy} {wl : List It} {es : List (List Nat × Bl)} {out : List Bl} {oa : Option Addr} {oc : Nat} {e : Int} {w w' : World} (h : PSX base P K M y wl es out oa oc e w) (hb : Below w.heap.size w w') : PSX base P K M y wl es out oa oc e w' :=
 ⟨(hb.block P (lt_of_block h.1)).trans h.1, own_belowK h.2.1 hb, (hb.block M (lt_of_block h.2.2.1)).trans h.2.2.1, h.2.2.2.1.below hb, h.2.2.2.2⟩
theorem PS.below {base P K M : Nat} {y : Wy} {wl : List It} {c : Nat} {st : Option (List Bl)} {w w' : World} (h : PS base P K M y wl c st w) (hb : Below w.heap.size w w') : PS base P K M y wl c st w' := by
 obtain ⟨out, oa, oc, e, h1, h2⟩ := h
 exact ⟨out, oa, oc, e, h1.below hb, h2⟩
theorem PS.base_le {base P K M : Nat} {y : Wy} {wl : List It} {c : Nat} {st : Option (List Bl)} {w : World} (h : PS base P K M y wl c st w) : base ≤ w.heap.size := by
 obtain ⟨out, oa, oc, e, h1, h2⟩ := h
 exact h1.base_le
theorem PS.more {base P K M : Nat} {y : Wy} {wl : List It} {c c' : Nat} {st : Option (List Bl)} {w : World} (h : PS base P K M y wl c st w) (hc : c ≤ c') : PS base P K M y wl c' st w := by
 obtain ⟨out, oa, oc, e, h1, h2, h3⟩ := h
 exact ⟨out, oa, oc, e, h1, Nat.le_trans h2 hc, h3⟩
theorem not_map_cells {w : World} {k : Nat} {cs : Array Value} {t : TypeId} {fr : Nat × Nat} {es : Array MapEntry} {cl : Nat} (h : w.heap[k]? = some (Obj.cells cs t fr)) (g : w.heap[k]? = some (Obj.map es cl)) : False := by
 rw [h] at g; injection g with g; cases g
theorem hm_isMap {w : World} {b n : Nat} {D : DataW Value} (h : HM w b n D) : ∃ es cl, w.heap[b]? = some (Obj.map es cl) := by
 obtain ⟨es, clock, hb, _⟩ := h
 exact ⟨es, clock, hb⟩
theorem row_setW {w : World} {B : Nat} {C : Array Value} {t : TypeId} (h : w.heap[B]? = some (.cells C t (0, 0))) (i : Nat) (v : Value) : (w.setCell ⟨B, i, none⟩ v).heap[B]? = some (.cells (C.setIfInBounds i v) t (0, 0)) := by
 simp [World.setCell, Array.getElem?_modify, h]
theorem FrP.set {base M : Nat} {w : World} {P : Nat} {cs : Array Value} (h : w.heap[P]? = some (Obj.cells cs 99 (0, 0))) (hb : base ≤ P) (i : Nat) (v : Value) : FrP base M w (w.setCell ⟨P, i, none⟩ v) := by
 refine ⟨(Below.refl base w).setCell (p := ⟨P, i, none⟩) hb v, fun k cs' t' fr' h1 h2 h3 => ?_, fun k es cl h1 h2 => ?_⟩
 ·
  by_cases e : k = P
  ·
   subst e
   rw [h] at h1
   injection h1 with h1
   injection h1 with _ h1
   exact absurd h1.symm h2
  ·
   exact (Below.heap_setCell _ _ _ _ e).trans h1
 ·
  have e : k ≠ P := fun e => by subst e; exact not_map_cells h h1
  exact (Below.heap_setCell _ _ _ _ e).trans h1
theorem PSX.set {base P K M : Nat} {y : Wy} {wl : List It} {es : List (List Nat × Bl)} {out : List Bl} {oa : Option Addr} {oc : Nat} {e : Int} {w : World} (h : PSX base P K M y wl es out oa oc e w) (i : Nat) (v : Value) :
  w.ownsRow base 37 2 (.slice oa out.length oc) out.length (out.flatMap blC) → (w.setCell ⟨P, i, none⟩ v).ownsRow base 37 2 (.slice oa out.length oc) out.length (out.flatMap blC) ∧ (w.setCell ⟨P, i, none⟩ v).heap[M]? = some (imO blV es) ∧ KidAt base K wl (w.setCell ⟨P, i, none⟩ v) ∧ FrP base M w (w.setCell ⟨P, i, none⟩ v) := by
 intro ho
 have hf : FrP base M w (w.setCell ⟨P, i, none⟩ v) := FrP.set h.1 h.2.2.2.2.1 i v
 have hM : M ≠ P := fun e => by
  have h1 := h.2.2.1
  rw [e] at h1
  exact not_map_cells h.1 h1
 refine ⟨own_of_block ho fun g cs _ hg => Below.heap_setCell _ _ _ _ fun e => ?_, (Below.heap_setCell _ _ _ _ hM).trans h.2.2.1, h.2.2.2.1.fr hf h.2.2.2.2.2.2.2, hf⟩
 have h1 := h.1
 unfold Plr at h1
 have e : g = P := e
 rw [← e, hg] at h1
 injection h1 with h1
 injection h1 with _ h1
 exact absurd h1 (by decide)
theorem PSX.err {base P K M : Nat} {y : Wy} {wl : List It} {es : List (List Nat × Bl)} {out : List Bl} {oa : Option Addr} {oc : Nat} {e : Int} {w : World} (h : PSX base P K M y wl es out oa oc e w) (e' : Int) :
  PSX base P K M y wl es out oa oc e' (w.setCell ⟨P, 7, none⟩ (.int .i64 e')) ∧ FrP base M w (w.setCell ⟨P, 7, none⟩ (.int .i64 e')) := by
 obtain ⟨h1, h2, h3, h4⟩ := h.set 7 (.int .i64 e') h.2.1
 exact ⟨⟨row_setW h.1 7 _, h1, h2, h3, h.2.2.2.2⟩, h4⟩
theorem PSX.seen {base P K M : Nat} {y : Wy} {wl : List It} {es : List (List Nat × Bl)} {out : List Bl} {oa : Option Addr} {oc : Nat} {e : Int} {w : World} (h : PSX base P K M y wl es out oa oc e w) (es' : List (List Nat × Bl)) :
  PSX base P K M y wl es' out oa oc e (setBlock w M (imO blV es')) ∧ FrP base M w (setBlock w M (imO blV es')) := by
 have hne : ∀ {k : Nat} {cs : Array Value} {t : TypeId} {fr : Nat × Nat}, w.heap[k]? = some (Obj.cells cs t fr) → k ≠ M := fun h1 e => by
  subst e; exact not_map_cells h1 h.2.2.1
 have hf : FrP base M w (setBlock w M (imO blV es')) := ⟨below_setBlockI (Below.refl _ _) h.2.2.2.2.2.2.1 _, fun k cs t fr h1 _ _ => (setBlockI_other _ (hne h1)).trans h1, fun k es cl h1 h2 => (setBlockI_other _ h2).trans h1⟩
 exact ⟨⟨(setBlockI_other _ (hne h.1)).trans h.1, own_of_block h.2.1 fun g cs _ hg => setBlockI_other _ (hne hg), setBlockI_same (vf := blV) h.2.2.1 _, h.2.2.2.1.fr hf h.2.2.2.2.2.2.2, h.2.2.2.2⟩, hf⟩
theorem PSX.grow {base P K M : Nat} {y : Wy} {wl : List It} {es : List (List Nat × Bl)} {out : List Bl} {oa : Option Addr} {oc : Nat} {e : Int} {w : World} (h : PSX base P K M y wl es out oa oc e w) {w2 : World} (hg : w.grownBy w2 (Value.slice oa out.length oc).ownBlock) :
  Plr w2 P y K M oa out.length oc e ∧ w2.heap[M]? = some (imO blV es) ∧ KidAt base K wl w2 ∧ FrP base M w w2 := by
 have hne : ∀ {k : Nat} {cs : Array Value} {t : TypeId} {fr : Nat × Nat}, w.heap[k]? = some (Obj.cells cs t fr) → t ≠ 37 → some k ≠ (Value.slice oa out.length oc).ownBlock := fun h1 ht e => by
  obtain ⟨_, _, cs', hc⟩ := own_typ h.2.1 e.symm
  rw [h1] at hc
  injection hc with hc
  injection hc with _ hc
  exact ht hc
 have hnm : ∀ {k : Nat} {es : Array MapEntry} {cl : Nat}, w.heap[k]? = some (Obj.map es cl) → some k ≠ (Value.slice oa out.length oc).ownBlock := fun h1 e => by
  obtain ⟨_, _, cs', hc⟩ := own_typ h.2.1 e.symm
  exact not_map_cells hc h1
 have hf : FrP base M w w2 := ⟨(Below.refl base w).grown hg h.base_le (fun k hk => (own_typ h.2.1 hk).1), fun k cs t fr h1 _ h3 => (hg.block k (lt_of_block h1) (hne h1 h3)).trans h1, fun k es cl h1 _ => (hg.block k (lt_of_block h1) (hnm h1)).trans h1⟩
 exact ⟨(hg.block P (lt_of_block h.1) (hne h.1 (by decide))).trans h.1, (hg.block M (lt_of_block h.2.2.1) (hnm h.2.2.1)).trans h.2.2.1, h.2.2.2.1.fr hf h.2.2.2.2.2.2.2, hf⟩
theorem PSX.app {base P K M : Nat} {y : Wy} {wl : List It} {es : List (List Nat × Bl)} {out : List Bl} {oa : Option Addr} {oc : Nat} {e : Int} {w : World} (h : PSX base P K M y wl es out oa oc e w) {w2 : World} (hg : w.grownBy w2 (Value.slice oa out.length oc).ownBlock) (b : Bl) {oa' : Option Addr} {oc' : Nat} (ho : w2.ownsRow base 37 2 (.slice oa' (out.length + 1) oc') (out.length + 1) (out.flatMap blC ++ blC b)) :
  Plr w2 P y K M oa out.length oc e ∧ PSX base P K M y wl es (out ++ [b]) oa' oc' e (w2.setCell ⟨P, 5, none⟩ (.slice oa' (out.length + 1) oc')) ∧ FrP base M w (w2.setCell ⟨P, 5, none⟩ (.slice oa' (out.length + 1) oc')) := by
 obtain ⟨h1, h2, h3, h4⟩ := h.grow hg
 have hf := FrP.set (M := M) h1 h.2.2.2.2.1 5 (.slice oa' (out.length + 1) oc')
 have hM : M ≠ P := fun e => by
  rw [e] at h2
  exact not_map_cells h1 h2
 refine ⟨h1, ⟨?_, ?_, (Below.heap_setCell _ _ _ _ hM).trans h2, h3.fr hf h.2.2.2.2.2.2.2, h.2.2.2.2⟩, h4.trans hf⟩
 ·
  show Plr _ P y K M oa' (out ++ [b]).length oc' e
  rw [List.length_append, List.length_singleton]
  exact row_setW h1 5 _
 ·
  rw [List.length_append, List.length_singleton, List.flatMap_append, List.flatMap_singleton]
  refine own_of_block ho fun g cs _ hg => Below.heap_setCell _ _ _ _ fun e => ?_
  have e : g = P := e
  unfold Plr at h1
  rw [← e, hg] at h1
  injection h1 with h1
  injection h1 with _ h1
  exact absurd h1 (by decide)
theorem FrP.fresh {base M : Nat} {w u : World} (h : FrP base M w u) {B : Nat} (hB : w.heap.size ≤ B) (hb : base ≤ w.heap.size) (o : Nat) (vs : List Value) : FrP base M w (u.setCells B o vs) := by
 have hne : ∀ {k : Nat}, k < w.heap.size → k ≠ B := fun hk => by omega
 exact ⟨below_setCells (Nat.le_trans hb hB) vs o h.1, fun k cs t fr h1 h2 h3 => (heap_setCells_other _ _ (hne (lt_of_block h1)) _ _ _).trans (h.2.1 k cs t fr h1 h2 h3), fun k es cl h1 h2 => (heap_setCells_other _ _ (hne (lt_of_blockW h1)) _ _ _).trans (h.2.2 k es cl h1 h2)⟩
theorem PSX.other {base P K M : Nat} {y : Wy} {wl : List It} {es : List (List Nat × Bl)} {out : List Bl} {oa : Option Addr} {oc : Nat} {e : Int} {w w' : World} (h : PSX base P K M y wl es out oa oc e w) {B : Nat} {cs : Array Value} {T : TypeId} (hB : w.heap[B]? = some (.cells cs T (0, 0))) (h1 : T ≠ 99) (h2 : T ≠ 37) (h3 : T ≠ 40) (ho : ∀ k, k ≠ B → w'.heap[k]? = w.heap[k]?) : PSX base P K M y wl es out oa oc e w' := by
 have hne : ∀ {k : Nat} {cs' : Array Value} {t : TypeId} {fr : Nat × Nat}, w.heap[k]? = some (Obj.cells cs' t fr) → t ≠ T → k ≠ B := fun hk ht e => by
  subst e
  rw [hB] at hk
  injection hk with hk
  injection hk with _ hk
  exact ht hk.symm
 have hm : ∀ {k : Nat} {es : Array MapEntry} {cl : Nat}, w.heap[k]? = some (Obj.map es cl) → k ≠ B := fun hk e => by
  subst e; exact not_map_cells hB hk
 obtain ⟨g1, g2, g3, ⟨n, D, a, c, k1, k2, k3, k4, k5⟩, g5⟩ := h
 obtain ⟨es', cl', hK⟩ := hm_isMap k1
 exact ⟨(ho P (hne g1 (Ne.symm h1))).trans g1, own_of_block g2 fun g cs' _ hg => ho g (hne hg (Ne.symm h2)), (ho M (hm g3)).trans g3, ⟨n, D, a, c, k1.of_block (ho K (hm hK)), k2, k3, fun q => ⟨(k4 q).1, own_of_block (k4 q).2 fun g cs' _ hg => ho g (hne hg (Ne.symm h3))⟩, k5⟩, g5⟩
theorem ilk_out (out : List Bl) (k : List Nat) : ilk (esOf out) k = out.find? (fun b => pidL b == k) := by
 induction out with
 | nil => rfl
 | cons b out ih =>
  unfold ilk esOf at *
  rw [List.map_cons]
  by_cases e : pidL b = k
  ·
   rw [List.find?_cons_of_pos (by simp [e]), List.find?_cons_of_pos (by simp [e])]
   rfl
  ·
   rw [List.find?_cons_of_neg (by simpa using e), List.find?_cons_of_neg (by simpa using e)]
   exact ih
theorem esOf_len (out : List Bl) : ∀ e ∈ esOf out, e.1.length = 8 := fun e he => by
 obtain ⟨b, _, rfl⟩ := List.mem_map.1 he
 exact pidL_length b
theorem esOf_snoc (out : List Bl) (b : Bl) : esOf (out ++ [b]) = esOf out ++ [(pidL b, b)] := by simp [esOf]
end Go.Proofs.YtbfoonfbhebhfaaGreatDoor
namespace Go.Proofs.YtbfoonfbhebhfaaGreatDoor
open Go.RowKit Plain Go.Maps Go.ChangeMaps
set_option linter.unusedVariables false
set_option linter.unusedSimpArgs false
set_option maxRecDepth 100000 in
set_option maxHeartbeats 2000000 in
theorem wayOK_any (fx mn mx bt : Int) (w : World) : Calls Tryz.prog 51 #[.agg #[.int .i64 fx, .int .i64 mn, .int .i64 mx, .int .i64 bt]] w fun e w' => (∃ c : Int, e = .returned (.int .i64 c) ∧ (c = 0 ↔ WyOk (fx, mn, mx, bt))) ∧ Below w.heap.size w w' := by
 have HB := Lib.hid ((Below.refl w.heap.size w).alloc (Nat.le_refl _) (.cells #[.int .i64 fx, .int .i64 mn, .int .i64 mx, .int .i64 bt] 25))
 have HC := Lib.hid fun u => ccheck_any mn mx bt u
 by_cases h0 : fx = 0
 ·
  subst h0
  go_enter Tryz.func51, Tryz.ntmps51
  go_wp2_with fail
  refine (HC.out _).mono ?_
  rintro e w1 ⟨he, hb⟩
  have HB1 := Lib.hid (Below.step HB.out hb)
  clear hb
  rcases he with ⟨rfl, h⟩ | ⟨rfl, h⟩
  ·
   have HK := Lib.hid h
   clear h
   go_wp2_with fail
   go_ret
   refine ⟨⟨0, rfl, ⟨fun _ => ?_, fun _ => rfl⟩⟩, HB1.out⟩
   unfold WyOk
   rw [if_pos rfl]
   exact HK.out
  ·
   have HK := Lib.hid h
   clear h
   go_wp2_with fail
   go_ret
   refine ⟨⟨1, rfl, ⟨fun e => absurd e (by decide), fun h => ?_⟩⟩, HB1.out⟩
   unfold WyOk at h
   rw [if_pos rfl] at h
   exact absurd h HK.out
 ·
  have f0 : (fx == 0) = false := by simpa using h0
  have HN := Lib.hid h0
  by_cases h1 : fx < 16
  ·
   have HK := Lib.hid h1
   clear h0
   go_enter Tryz.func51, Tryz.ntmps51
   go_wp2_with fail
   go_ret
   refine ⟨⟨1, rfl, ⟨fun e => absurd e (by decide), fun h => ?_⟩⟩, HB.out⟩
   unfold WyOk at h
   rw [if_neg HN.out] at h
   exact absurd HK.out (by have := h.1; simp only at this; omega)
  ·
   by_cases h2 : 1024 < fx
   ·
    have HK := Lib.hid h2
    have f1 : ¬ fx < 16 := h1
    clear h0
    go_enter Tryz.func51, Tryz.ntmps51
    go_wp2_with fail
    go_ret
    refine ⟨⟨1, rfl, ⟨fun e => absurd e (by decide), fun h => ?_⟩⟩, HB.out⟩
    unfold WyOk at h
    rw [if_neg HN.out] at h
    exact absurd HK.out (by have := h.2; simp only at this; omega)
   ·
    have HK : Hid (16 ≤ fx ∧ fx ≤ 1024) := Lib.hid (by omega)
    clear h0
    go_enter Tryz.func51, Tryz.ntmps51
    go_wp2_with fail
    go_ret
    refine ⟨⟨0, rfl, ⟨fun _ => ?_, fun _ => rfl⟩⟩, HB.out⟩
    unfold WyOk
    rw [if_neg HN.out]
    exact HK.out
def PcEndW (y : Wy) (s : ByteArray) (w0 : World) (e : Ending) (w : World) : Prop := ∃ (a : Option Addr) (c : Nat), PcsGood y s ∧ e = .returned (.slice a (pcsF y s).length c) ∧ w.ownsRow w0.heap.size 9 1 (.slice a (pcsF y s).length c) (pcsF y s).length ((pcsF y s).flatMap sC) ∧ Below w0.heap.size w0 w
theorem pc_end {y : Wy} {s : ByteArray} {ps : List ByteArray} (hy : WyOk y) (h : PcsOf y s ps) {w0 w : World} {a : Option Addr} {c : Nat} (ho : w.ownsRow w0.heap.size 9 1 (.slice a ps.length c) ps.length (ps.flatMap sC)) (hb : Below w0.heap.size w0 w) : PcEndW y s w0 (.returned (.slice a ps.length c)) w := by
 rw [← pcsF_of h] at ho ⊢
 exact ⟨a, c, h.good hy, rfl, ho, hb⟩
set_option maxRecDepth 100000 in
set_option maxHeartbeats 2000000 in
theorem pcs_any {P : Nat} {y : Wy} {K M : Nat} {oa : Option Addr} {on oc : Nat} {er : Int} (s : ByteArray) (w : World) (h : Plr w P y K M oa on oc er) (hy : WyOk y) (hs : s.size ≤ 4096) :
  Calls Tryz.prog 86 #[.pointer (some ⟨P, 0, none⟩), .string s] w (PcEndW y s w) := by
 obtain ⟨fx, mn, mx, bt⟩ := y
 obtain ⟨c0, c1, c2, c3, c4, c5, c6, c7⟩ := h.cells
 have HY := Lib.hid hy
 have HC := Lib.hid fun u => cut_any mn mx bt s u (by omega)
 have HF := Lib.hid fun u => fixed_any fx s u (by omega)
 have HS := Lib.hid hs
 simp only at c0 c1 c2 c3
 clear hy h hs c4 c5 c6 c7
 by_cases h0 : fx = 0
 ·
  subst h0
  go_enter Tryz.func86, Tryz.ntmps86
  go_wp2_with fail
  refine (HC.out _).mono ?_
  rintro e w1 (⟨ps, a, c, _, _, hcut, _, rfl, hown, hb⟩ | ⟨c, _, hn, _⟩)
  rotate_left
  ·
   exfalso
   have hyy := HY.out
   unfold WyOk at hyy
   rw [if_pos rfl] at hyy
   rcases hn with hn | hn
   ·
    exact hn hyy
   ·
    have := HS.out; omega
  have HE := Lib.hid (pc_end (y := (0, mn, mx, bt)) HY.out (show PcsOf (0, mn, mx, bt) s ps by unfold PcsOf; rw [if_pos rfl]; exact hcut) hown hb)
  clear hcut hown hb HC HF c0 c1 c2 c3
  go_wp2_with fail
  go_ret
  exact HE.out
 ·
  have f0 : (fx == 0) = false := by simpa using h0
  have HN := Lib.hid h0
  clear h0
  go_enter Tryz.func86, Tryz.ntmps86
  go_wp2_with fail
  refine (HF.out _).mono ?_
  rintro e w1 (⟨ps, a, c, d, hd, hfx, _, _, _, rfl, hown, hb⟩ | ⟨c, _, hn, _⟩)
  rotate_left
  ·
   exfalso
   have hyy := HY.out
   unfold WyOk at hyy
   rw [if_neg HN.out] at hyy
   simp only at hyy
   have := HS.out
   omega
  have HE := Lib.hid (pc_end (y := (fx, mn, mx, bt)) HY.out (show PcsOf (fx, mn, mx, bt) s ps by unfold PcsOf; rw [if_neg HN.out]; rw [hd]; exact hfx) hown hb)
  clear hfx hown hb HC HF c0 c1 c2 c3 hd
  go_wp2_with fail
  go_ret
  exact HE.out
end Go.Proofs.YtbfoonfbhebhfaaGreatDoor
