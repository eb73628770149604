/- Joined: FetchP, FetchV0. -/
import Derived.Test.YtbfoonfbhebhfaaGreatDoorKGoS
import Derived.Test.YtbfoonfbhebhfaaGreatDoorKGoT
import Derived.Test.YtbfoonfbhebhfaaGreatDoorKGoC
namespace Go.Proofs.YtbfoonfbhebhfaaGreatDoor
open Go.RowKit Plain Go.Maps
set_option linter.unusedVariables false
set_option linter.unusedSimpArgs false
abbrev VSt := List (List Nat) × List Bl
def runL (f : List Nat → VSt → Option VSt) : List (List Nat) → VSt → Option VSt
 | [], st => some st
 | i :: l, st => match f i st with
  | none => none
  | some st' => runL f l st'
theorem runL_append (f : List Nat → VSt → Option VSt) : ∀ (l m : List (List Nat)) (st : VSt), runL f (l ++ m) st = match runL f l st with
  | none => none
  | some st' => runL f m st'
 | [], m, st => rfl
 | i :: l, m, st => by
  rw [List.cons_append, runL, runL]
  cases f i st with
  | none => rfl
  | some st' => exact runL_append f l m st'
theorem runL_snoc (f : List Nat → VSt → Option VSt) (l : List (List Nat)) (i : List Nat) (st : VSt) : runL f (l ++ [i]) st = match runL f l st with
  | none => none
  | some st' => f i st' := by
 rw [runL_append]
 cases runL f l st with
 | none => rfl
 | some st' =>
  show runL f [i] st' = f i st'
  rw [runL]
  cases f i st' <;> rfl
noncomputable def stepF (B : List Nat → Option Bl) (f : List Nat → VSt → Option VSt) (id : List Nat) (st : VSt) : Option VSt :=
 open Classical in
 if id ∈ st.1 then some st else match B id with
  | none => none
  | some b => if NdOk b then (match runL f (ndF b) (st.1 ++ [id], st.2) with
   | none => none
   | some st' => some (st'.1, st'.2 ++ [b])) else none
noncomputable def visitF (B : List Nat → Option Bl) : Nat → List Nat → VSt → Option VSt
 | 0 => stepF B (fun _ _ => none)
 | n + 1 => stepF B (visitF B n)
theorem stepF_seen {B : List Nat → Option Bl} {f : List Nat → VSt → Option VSt} {id : List Nat} {st : VSt} (h : id ∈ st.1) : stepF B f id st = some st := by unfold stepF; rw [if_pos h]
theorem stepF_none {B : List Nat → Option Bl} {f : List Nat → VSt → Option VSt} {id : List Nat} {st : VSt} (h : id ∉ st.1) (hb : B id = none) : stepF B f id st = none := by unfold stepF; rw [if_neg h, hb]
theorem stepF_bad {B : List Nat → Option Bl} {f : List Nat → VSt → Option VSt} {id : List Nat} {st : VSt} {b : Bl} (h : id ∉ st.1) (hb : B id = some b) (hn : ¬ NdOk b) : stepF B f id st = none := by unfold stepF; rw [if_neg h, hb]; simp only; rw [if_neg hn]
theorem stepF_err {B : List Nat → Option Bl} {f : List Nat → VSt → Option VSt} {id : List Nat} {st : VSt} {b : Bl} (h : id ∉ st.1) (hb : B id = some b) (hn : NdOk b) (hr : runL f (ndF b) (st.1 ++ [id], st.2) = none) : stepF B f id st = none := by unfold stepF; rw [if_neg h, hb]; simp only; rw [if_pos hn, hr]
theorem stepF_ok {B : List Nat → Option Bl} {f : List Nat → VSt → Option VSt} {id : List Nat} {st st' : VSt} {b : Bl} (h : id ∉ st.1) (hb : B id = some b) (hn : NdOk b) (hr : runL f (ndF b) (st.1 ++ [id], st.2) = some st') : stepF B f id st = some (st'.1, st'.2 ++ [b]) := by unfold stepF; rw [if_neg h, hb]; simp only; rw [if_pos hn, hr]
theorem stepF_inv {B : List Nat → Option Bl} {f : List Nat → VSt → Option VSt} {id : List Nat} {st st' : VSt} (h : stepF B f id st = some st') : (id ∈ st.1 ∧ st' = st) ∨ (id ∉ st.1 ∧ ∃ b st2, B id = some b ∧ NdOk b ∧ runL f (ndF b) (st.1 ++ [id], st.2) = some st2 ∧ st' = (st2.1, st2.2 ++ [b])) := by
 by_cases hs : id ∈ st.1
 ·
  rw [stepF_seen hs] at h
  injection h with h
  exact .inl ⟨hs, h.symm⟩
 ·
  cases hb : B id with
  | none => rw [stepF_none hs hb] at h; cases h
  | some b =>
   by_cases hn : NdOk b
   ·
    cases hr : runL f (ndF b) (st.1 ++ [id], st.2) with
    | none => rw [stepF_err hs hb hn hr] at h; cases h
    | some st2 =>
     rw [stepF_ok hs hb hn hr] at h
     injection h with h
     exact .inr ⟨hs, b, st2, rfl, hn, hr, h.symm⟩
   ·
    rw [stepF_bad hs hb hn] at h; cases h
structure Grw (es : List (List Nat × Bl)) (rem : List (List Nat) → Nat) (st st' : VSt) : Prop where
 seen : ∀ x ∈ st.1, x ∈ st'.1
 len : st'.2.length + rem st'.1 ≤ st.2.length + rem st.1
theorem Grw.refl {es : List (List Nat × Bl)} {rem : List (List Nat) → Nat} (st : VSt) : Grw es rem st st := ⟨fun _ h => h, Nat.le_refl _⟩
theorem Grw.trans {es : List (List Nat × Bl)} {rem : List (List Nat) → Nat} {a b c : VSt} (h : Grw es rem a b) (g : Grw es rem b c) : Grw es rem a c := ⟨fun x hx => g.seen x (h.seen x hx), Nat.le_trans g.len h.len⟩
def remV (es : List (List Nat × Bl)) (seen : List (List Nat)) : Nat := (es.filter fun e => decide (e.1 ∉ seen)).length
theorem remV_le (es : List (List Nat × Bl)) (seen : List (List Nat)) : remV es seen ≤ es.length := List.length_filter_le _ _
theorem remV_mono (es : List (List Nat × Bl)) {a b : List (List Nat)} (h : ∀ x ∈ a, x ∈ b) : remV es b ≤ remV es a := by
 unfold remV
 induction es with
 | nil => exact Nat.le_refl _
 | cons e es ih =>
  by_cases h1 : e.1 ∈ a
  ·
   rw [List.filter_cons_of_neg (by simpa using h e.1 h1), List.filter_cons_of_neg (by simpa using h1)]
   exact ih
  ·
   rw [List.filter_cons_of_pos (a := e) (l := es) (p := fun e => decide (e.1 ∉ a)) (by simpa using h1)]
   by_cases h2 : e.1 ∈ b
   ·
    rw [List.filter_cons_of_neg (by simpa using h2)]
    exact Nat.le_succ_of_le ih
   ·
    rw [List.filter_cons_of_pos (by simpa using h2)]
    exact Nat.succ_le_succ ih
theorem remV_lt {es : List (List Nat × Bl)} {seen : List (List Nat)} {id : List Nat} {b : Bl} (hm : (id, b) ∈ es) (hs : id ∉ seen) : remV es (seen ++ [id]) + 1 ≤ remV es seen := by
 unfold remV
 induction es with
 | nil => cases hm
 | cons e es ih =>
  have hmono : (es.filter fun e => decide (e.1 ∉ seen ++ [id])).length ≤ (es.filter fun e => decide (e.1 ∉ seen)).length := remV_mono es (a := seen) (b := seen ++ [id]) fun x hx => List.mem_append_left _ hx
  by_cases he : e.1 = id
  ·
   rw [List.filter_cons_of_neg (by simp [he]), List.filter_cons_of_pos (by simpa [he] using hs)]
   exact Nat.succ_le_succ hmono
  ·
   have hm2 : (id, b) ∈ es := by
    rcases List.mem_cons.1 hm with h | h
    ·
     exact absurd (by rw [← h]) he
    ·
     exact h
   have := ih hm2
   by_cases h1 : e.1 ∈ seen
   ·
    rw [List.filter_cons_of_neg (by simp [h1]), List.filter_cons_of_neg (by simpa using h1)]
    exact this
   ·
    rw [List.filter_cons_of_pos (by simp [h1, he]), List.filter_cons_of_pos (by simpa using h1)]
    exact Nat.succ_le_succ this
theorem runL_grw {es : List (List Nat × Bl)} {f : List Nat → VSt → Option VSt} (hf : ∀ id st st', f id st = some st' → Grw es (remV es) st st') : ∀ (l : List (List Nat)) (st st' : VSt), runL f l st = some st' → Grw es (remV es) st st'
 | [], st, st', h => by injection h with h; subst h; exact Grw.refl _
 | i :: l, st, st', h => by
  rw [runL] at h
  cases hi : f i st with
  | none => rw [hi] at h; cases h
  | some s2 => rw [hi] at h; exact (hf i st s2 hi).trans (runL_grw hf l s2 st' h)
theorem stepF_grw {es mz : List (List Nat × Bl)} (hmz : ∀ id b, ilk es id = some b → (id, b) ∈ mz) {f : List Nat → VSt → Option VSt} (hf : ∀ id st st', f id st = some st' → Grw mz (remV mz) st st') (id : List Nat) (st st' : VSt) (h : stepF (ilk es) f id st = some st') : Grw mz (remV mz) st st' := by
 rcases stepF_inv h with ⟨_, rfl⟩ | ⟨hs, b, s2, hb, _, hr, rfl⟩
 ·
  exact Grw.refl _
 ·
  have g := runL_grw hf _ _ _ hr
  have hlt := remV_lt (hmz _ _ hb) hs
  refine ⟨fun x hx => g.seen x (List.mem_append_left _ hx), ?_⟩
  have := g.len
  simp only [List.length_append, List.length_cons, List.length_nil] at this ⊢
  omega
theorem visitF_grw {es mz : List (List Nat × Bl)} (hmz : ∀ id b, ilk es id = some b → (id, b) ∈ mz) : ∀ (n : Nat) (id : List Nat) (st st' : VSt), visitF (ilk es) n id st = some st' → Grw mz (remV mz) st st'
 | 0, id, st, st', h => stepF_grw hmz (fun _ _ _ h => by cases h) id st st' h
 | n + 1, id, st, st', h => stepF_grw hmz (visitF_grw hmz n) id st st' h
end Go.Proofs.YtbfoonfbhebhfaaGreatDoor
namespace Go.Proofs.YtbfoonfbhebhfaaGreatDoor
open Go.RowKit Plain Go.Maps Go.ChangeMaps
set_option linter.unusedVariables false
set_option linter.unusedSimpArgs false
def vB (b : Bool) : Value := .bool b
def SeenM (seen : List (List Nat)) (ss : List (List Nat × Bool)) : Prop := (∀ e ∈ ss, e.1.length = 8) ∧ ∀ id, ilk ss id = if id ∈ seen then some true else none
theorem SeenM.nil : SeenM [] [] := ⟨by simp, fun _ => rfl⟩
theorem SeenM.new {P : List (List Nat)} {es : List (List Nat × Bool)} (h : SeenM P es) {id : List Nat} (h8 : id.length = 8) (hn : id ∉ P) : SeenM (P ++ [id]) (es ++ [(id, true)]) := by
 refine ⟨fun e he => ?_, fun q => ?_⟩
 ·
  rcases List.mem_append.1 he with he | he
  ·
   exact h.1 e he
  ·
   rw [List.mem_singleton] at he; subst he; exact h8
 ·
  rw [ilk_snoc, h.2 q]
  by_cases hq : q ∈ P
  ·
   simp [hq]
  ·
   by_cases e : id = q
   ·
    subst e; simp [hq]
   ·
    have : ¬ q = id := fun e2 => e e2.symm
    simp [hq, e, this]
theorem zero_boolV (w : World) : (zeroValue 4).run Tryz.prog w = .ok (vB false) w := by kernel_rfl
structure FrV (P S : Nat) (ob ob' : Option Nat) (w w' : World) : Prop where
 os : w'.os = w.os
 tape : w'.tape = w.tape
 output : w'.output = w.output
 size : w.heap.size ≤ w'.heap.size
 block : ∀ k, k < w.heap.size → k ≠ P → k ≠ S → some k ≠ ob → w'.heap[k]? = w.heap[k]?
 next : ob' = ob ∨ ∃ g, ob' = some g ∧ w.heap.size ≤ g
theorem FrV.refl (P S : Nat) (ob : Option Nat) (w : World) : FrV P S ob ob w w := ⟨rfl, rfl, rfl, Nat.le_refl _, fun _ _ _ _ _ => rfl, .inl rfl⟩
theorem FrV.of_below {P S : Nat} {ob : Option Nat} {w w' : World} (h : Below w.heap.size w w') : FrV P S ob ob w w' := ⟨h.os, h.tape, h.output, h.size, fun k hk _ _ _ => h.block k hk, .inl rfl⟩
theorem FrV.trans {P S : Nat} {ob ob' ob2 : Option Nat} {a b c : World} (h : FrV P S ob ob' a b) (g : FrV P S ob' ob2 b c) : FrV P S ob ob2 a c := by
 refine ⟨g.os.trans h.os, g.tape.trans h.tape, g.output.trans h.output, Nat.le_trans h.size g.size, fun k hk hne hns hob => ?_, ?_⟩
 ·
  have hs := h.size
  rw [g.block k (by omega) hne hns (fun e => ?_), h.block k hk hne hns hob]
  rcases h.next with e2 | ⟨x, e2, hx⟩
  ·
   exact hob (by rw [← e2, ← e])
  ·
   rw [e2] at e; injection e with e; omega
 ·
  rcases g.next with e | ⟨x, e, hx⟩
  ·
   rcases h.next with e2 | ⟨x, e2, hx⟩
   ·
    exact .inl (e.trans e2)
   ·
    exact .inr ⟨x, e.trans e2, hx⟩
  ·
   exact .inr ⟨x, e, Nat.le_trans h.size hx⟩
theorem FrV.below {P S : Nat} {ob ob' : Option Nat} {w w' : World} (h : FrV P S ob ob' w w') {B : Nat} (hP : B ≤ P) (hS : B ≤ S) (hob : ∀ g, ob = some g → B ≤ g) (hB : B ≤ w.heap.size) : Below B w w' :=
 ⟨h.os, h.tape, h.output, h.size, fun k hk => h.block k (by omega) (by omega) (by omega) (fun e => by have := hob k e.symm; omega)⟩
def Vpr (w : World) (P H S : Nat) (oa : Option Addr) (on oc : Nat) : Prop := w.heap[P]? = some (.cells #[.map (some H), .map (some S), .slice oa on oc] 138 (0, 0))
theorem Vpr.c0 {w : World} {P H S : Nat} {oa : Option Addr} {on oc : Nat} (h : Vpr w P H S oa on oc) : w.cell? ⟨P, 0, none⟩ = some (.map (some H)) := by
 have := cell_of_row _ _ 0 _ _ _ h
 simpa using this
theorem Vpr.c1 {w : World} {P H S : Nat} {oa : Option Addr} {on oc : Nat} (h : Vpr w P H S oa on oc) : w.cell? ⟨P, 1, none⟩ = some (.map (some S)) := by
 have := cell_of_row _ _ 1 _ _ _ h
 simpa using this
theorem Vpr.c2 {w : World} {P H S : Nat} {oa : Option Addr} {on oc : Nat} (h : Vpr w P H S oa on oc) : w.cell? ⟨P, 2, none⟩ = some (.slice oa on oc) := by
 have := cell_of_row _ _ 2 _ _ _ h
 simpa using this
def VX (base P H S : Nat) (es : List (List Nat × Bl)) (seen : List (List Nat)) (out : List Bl) (ss : List (List Nat × Bool)) (oa : Option Addr) (oc : Nat) (w : World) : Prop :=
 Vpr w P H S oa out.length oc ∧ w.ownsRow base 37 2 (.slice oa out.length oc) out.length (out.flatMap blC) ∧ w.heap[H]? = some (imO blV es) ∧ w.heap[S]? = some (imO vB ss) ∧ SeenM seen ss ∧ base ≤ P ∧ base ≤ H ∧ base ≤ S ∧ H ≠ S
theorem VX.below {base P H S : Nat} {es : List (List Nat × Bl)} {seen : List (List Nat)} {out : List Bl} {ss : List (List Nat × Bool)} {oa : Option Addr} {oc : Nat} {w w' : World} (h : VX base P H S es seen out ss oa oc w) (hb : Below w.heap.size w w') : VX base P H S es seen out ss oa oc w' :=
 ⟨(hb.block P (lt_of_block h.1)).trans h.1, own_belowK h.2.1 hb, (hb.block H (lt_of_blockW h.2.2.1)).trans h.2.2.1, (hb.block S (lt_of_blockW h.2.2.2.1)).trans h.2.2.2.1, h.2.2.2.2⟩
theorem VX.ob {base P H S : Nat} {es : List (List Nat × Bl)} {seen : List (List Nat)} {out : List Bl} {ss : List (List Nat × Bool)} {oa : Option Addr} {oc : Nat} {w : World} (h : VX base P H S es seen out ss oa oc w) {g : Nat} (hg : obk oa = some g) : base ≤ g ∧ g < w.heap.size ∧ g ≠ P ∧ g ≠ H ∧ g ≠ S := by
 have hg' : (Value.slice oa out.length oc).ownBlock = some g := by rw [own_obk]; exact hg
 obtain ⟨h1, h2, cs, h3⟩ := own_typ h.2.1 hg'
 refine ⟨h1, h2, fun e => ?_, fun e => ?_, fun e => ?_⟩
 ·
  have hr := h.1
  unfold Vpr at hr
  rw [← e, h3] at hr
  injection hr with hr
  injection hr with _ hr
  exact absurd hr (by decide)
 ·
  subst e; exact not_map_cells h3 h.2.2.1
 ·
  subst e; exact not_map_cells h3 h.2.2.2.1
theorem VX.pne {base P H S : Nat} {es : List (List Nat × Bl)} {seen : List (List Nat)} {out : List Bl} {ss : List (List Nat × Bool)} {oa : Option Addr} {oc : Nat} {w : World} (h : VX base P H S es seen out ss oa oc w) : P ≠ S ∧ P ≠ H := by
 refine ⟨fun e => ?_, fun e => ?_⟩
 ·
  have := h.1; unfold Vpr at this; rw [e] at this; exact not_map_cells this h.2.2.2.1
 ·
  have := h.1; unfold Vpr at this; rw [e] at this; exact not_map_cells this h.2.2.1
theorem own_setBlockV {w : World} {base : Nat} {e : TypeId} {k : Nat} {v : Value} {n : Nat} {xs : List Value} {S : Nat} (h : w.ownsRow base e k v n xs) (o : Obj) (hne : ∀ g, v.ownBlock = some g → g ≠ S) : (setBlock w S o).ownsRow base e k v n xs := by
 refine ⟨h.1, ?_⟩
 rcases h.2 with h | ⟨b, c, cur, h0, h1, h2, h3⟩
 ·
  exact .inl h
 ·
  exact .inr ⟨b, c, cur, h0, h1, (setBlockI_other o (hne b (by rw [h0]; rfl))).trans h2, h3⟩
theorem VX.put {base P H S : Nat} {es : List (List Nat × Bl)} {seen : List (List Nat)} {out : List Bl} {ss : List (List Nat × Bool)} {oa : Option Addr} {oc : Nat} {w : World} (h : VX base P H S es seen out ss oa oc w) {id : List Nat} (h8 : id.length = 8) (hn : id ∉ seen) :
  VX base P H S es (seen ++ [id]) out (ss ++ [(id, true)]) oa oc (setBlock w S (imO vB (ss ++ [(id, true)]))) ∧ FrV P S (obk oa) (obk oa) w (setBlock w S (imO vB (ss ++ [(id, true)]))) := by
 refine ⟨⟨(setBlockI_other _ h.pne.1).trans h.1, own_setBlockV h.2.1 _ (fun g hg => (h.ob (by rw [← own_obk oa out.length oc]; exact hg)).2.2.2.2), (setBlockI_other _ h.2.2.2.2.2.2.2.2).trans h.2.2.1, setBlockI_same vB h.2.2.2.1 _, h.2.2.2.2.1.new h8 hn, h.2.2.2.2.2⟩, ⟨rfl, rfl, rfl, by simp [setBlock], fun k _ _ hns _ => setBlockI_other _ hns, .inl rfl⟩⟩
theorem VX.app {base P H S : Nat} {es : List (List Nat × Bl)} {seen : List (List Nat)} {out : List Bl} {ss : List (List Nat × Bool)} {oa oa3 : Option Addr} {oc oc3 : Nat} {wd wa w7 : World} {b : Bl} (h : VX base P H S es seen out ss oa oc wd) (hAA : Below wd.heap.size wd wa) (hgr : wa.grownBy w7 (obk oa)) (hown : w7.ownsRow base 37 2 (.slice oa3 (out.length + 1) oc3) (out.length + 1) (out.flatMap blC ++ blC b)) (hblk : obk oa3 = obk oa ∨ ∃ k, obk oa3 = some k ∧ wa.heap.size ≤ k) :
  Vpr w7 P H S oa out.length oc ∧ VX base P H S es seen (out ++ [b]) ss oa3 oc3 (w7.setCell ⟨P, 2, none⟩ (.slice oa3 (out.length + 1) oc3)) ∧ FrV P S (obk oa) (obk oa3) wd (w7.setCell ⟨P, 2, none⟩ (.slice oa3 (out.length + 1) oc3)) := by
 have ha := h.below hAA
 have hRg : Vpr w7 P H S oa out.length oc := (hgr.block P (lt_of_block ha.1) (fun e => (h.ob e.symm).2.2.1 rfl)).trans ha.1
 have hHg : w7.heap[H]? = some (imO blV es) := (hgr.block H (lt_of_blockW ha.2.2.1) (fun e => (h.ob e.symm).2.2.2.1 rfl)).trans ha.2.2.1
 have hSg : w7.heap[S]? = some (imO vB ss) := (hgr.block S (lt_of_blockW ha.2.2.2.1) (fun e => (h.ob e.symm).2.2.2.2 rfl)).trans ha.2.2.2.1
 have hle : (out ++ [b]).length = out.length + 1 := by rw [List.length_append]; rfl
 refine ⟨hRg, ⟨?_, ?_, (Below.heap_setCell _ _ _ _ h.pne.2.symm).trans hHg, (Below.heap_setCell _ _ _ _ h.pne.1.symm).trans hSg, h.2.2.2.2⟩, ?_⟩
 ·
  rw [hle]; exact row_setW hRg 2 _
 ·
  rw [hle, List.flatMap_append, List.flatMap_singleton]; exact own_setW hown hRg (by decide) 2 _
 ·
  have hfr7 : FrV P S (obk oa) (obk oa3) wd w7 := by
   refine ⟨hgr.os.trans hAA.os, hgr.tape.trans hAA.tape, hgr.output.trans hAA.output, Nat.le_trans hAA.size hgr.size, fun j hj _ _ hjo => (hgr.block j (Nat.lt_of_lt_of_le hj hAA.size) hjo).trans (hAA.block j hj), ?_⟩
   rcases hblk with h | ⟨k, h, hk⟩
   ·
    exact .inl h
   ·
    exact .inr ⟨k, h, Nat.le_trans hAA.size hk⟩
  exact hfr7.trans ⟨rfl, rfl, rfl, by simp, fun j _ hjP _ _ => Below.heap_setCell _ _ _ _ hjP, .inl rfl⟩
def VEnd (base P H S : Nat) (es : List (List Nat × Bl)) (st : Option VSt) (ob : Option Nat) (w0 : World) (e : Ending) (w : World) : Prop := ∃ (seen : List (List Nat)) (out : List Bl) (ss : List (List Nat × Bool)) (oa : Option Addr) (oc : Nat) (c : Int),
 e = .returned (.int .i64 c) ∧ VX base P H S es seen out ss oa oc w ∧ FrV P S ob (obk oa) w0 w ∧ ((st = some (seen, out) ∧ c = 0) ∨ (st = none ∧ c ≠ 0))
end Go.Proofs.YtbfoonfbhebhfaaGreatDoor
