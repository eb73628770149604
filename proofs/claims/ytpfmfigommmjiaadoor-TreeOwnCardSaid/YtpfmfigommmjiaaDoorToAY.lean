/- Joined: ChunkPlain, ChunkEnd, ChunkW, ChunkCut, WalkSeq, IdMap, WalkMem, WalkPut, WalkPut2, WalkIdx. -/
import Derived.WalkKit
import Derived.Test.YtpfmfigommmjiaaDoorToAX
import Derived.Test.YtpfmfigommmjiaaDoorToAB
import Derived.Test.YtpfmfigommmjiaaDoorToAA
import Derived.Deep.QuietTactic
import Derived.BigQuiet
import Derived.Test.YtpfmfigommmjiaaDoorToAC
import Derived.Test.YtpfmfigommmjiaaDoorTpAC
import Derived.Test.YtpfmfigommmjiaaDoorToAV
import Derived.Test.YtpfmfigommmjiaaDoorToAW
import Derived.DeepKeys3
import Derived.MapKept
import Derived.ChangeMaps5
import Derived.ChangeKeysEq
import Derived.Maps.AppendAt
import Derived.StillTailTactics
import Derived.Test.YtpfmfigommmjiaaDoorToAQ
import Derived.Laws.StructEq
namespace Go.Proofs.YtpfmfigommmjiaaDoor
namespace Plain
structure Rule where
  mn : Nat
  mx : Nat
  cut : List Nat → Bool
def Rule.ok (R : Rule) : Prop := 1 ≤ R.mn ∧ R.mn ≤ R.mx
def Rule.hit (R : Rule) (l : List Nat) (k : Nat) : Prop := k = R.mx ∨ (R.mn ≤ k ∧ R.cut (l.take k) = true)
def Rule.End (R : Rule) (l : List Nat) (k : Nat) : Prop :=
  (k = 0 ∧ ∀ j, 1 ≤ j → j ≤ l.length → ¬ R.hit l j) ∨ (1 ≤ k ∧ k ≤ l.length ∧ R.hit l k ∧ ∀ j, 1 ≤ j → j < k → ¬ R.hit l j)
inductive Rule.Pcs (R : Rule) : List Nat → List (List Nat) → List Nat → Prop
  | stop {l : List Nat} : R.End l 0 → R.Pcs l [] l
  | go {l : List Nat} {k : Nat} {ps : List (List Nat)} {r : List Nat} : 1 ≤ k → R.End l k → R.Pcs (l.drop k) ps r → R.Pcs l (l.take k :: ps) r
theorem Rule.End.unique {R : Rule} {l : List Nat} {k m : Nat} (h : R.End l k) (g : R.End l m) : k = m := by
  rcases h with ⟨rfl, h⟩ | ⟨h1, h2, h3, h4⟩ <;> rcases g with ⟨rfl, g⟩ | ⟨g1, g2, g3, g4⟩
  · rfl
  · exact absurd g3 (h _ g1 g2)
  · exact absurd h3 (g _ h1 h2)
  · rcases Nat.lt_trichotomy k m with e | e | e
    · exact absurd h3 (g4 _ h1 e)
    · exact e
    · exact absurd g3 (h4 _ g1 e)
theorem Rule.Pcs.unique {R : Rule} {l : List Nat} {ps : List (List Nat)} {r : List Nat} (h : R.Pcs l ps r) : ∀ {qs t}, R.Pcs l qs t → ps = qs ∧ r = t := by
  induction h with
  | stop h0 =>
    intro qs t g
    cases g with
    | stop _ => exact ⟨rfl, rfl⟩
    | go g1 g2 _ => have := h0.unique g2; omega
  | go h1 h2 _ ih =>
    intro qs t g
    cases g with
    | stop g0 => have := g0.unique h2; omega
    | go g1 g2 g3 =>
      obtain rfl := h2.unique g2
      obtain ⟨rfl, rfl⟩ := ih g3
      exact ⟨rfl, rfl⟩
theorem Rule.End.le {R : Rule} {l : List Nat} {k : Nat} (h : R.End l k) : k ≤ l.length := by
  rcases h with ⟨rfl, _⟩ | ⟨_, h2, _⟩
  · omega
  · exact h2
theorem Rule.Pcs.join {R : Rule} {l : List Nat} {ps : List (List Nat)} {r : List Nat} (h : R.Pcs l ps r) : ps.flatten ++ r = l := by
  induction h with
  | stop _ => simp
  | go h1 h2 _ ih => rw [List.flatten_cons, List.append_assoc, ih, List.take_append_drop]
theorem Rule.Pcs.nil {R : Rule} : R.Pcs [] [] [] := .stop (.inl ⟨rfl, fun j h1 h2 => by simp at h2; omega⟩)
def cutOf (ps : List (List Nat)) (r : List Nat) : List (List Nat) := if r = [] then ps else ps ++ [r]
def Rule.Cuts (R : Rule) (l : List Nat) (cs : List (List Nat)) : Prop := ∃ ps r, R.Pcs l ps r ∧ cs = cutOf ps r
theorem Rule.Cuts.unique {R : Rule} {l : List Nat} {cs ds : List (List Nat)} (h : R.Cuts l cs) (g : R.Cuts l ds) : cs = ds := by
  obtain ⟨ps, r, h, rfl⟩ := h
  obtain ⟨qs, t, g, rfl⟩ := g
  obtain ⟨rfl, rfl⟩ := h.unique g
  rfl
theorem Rule.Cuts.join {R : Rule} {l : List Nat} {cs : List (List Nat)} (h : R.Cuts l cs) : cs.flatten = l := by
  obtain ⟨ps, r, h, rfl⟩ := h
  have := h.join
  unfold cutOf
  split
  · rename_i e; subst e; simpa using this
  · simpa using this
theorem Rule.Cuts.nil {R : Rule} : R.Cuts [] [] := ⟨[], [], .nil, rfl⟩
theorem Rule.Cuts.tail {R : Rule} {l p : List Nat} {cs : List (List Nat)} (h : R.Cuts l (p :: cs)) : R.Cuts cs.flatten cs := by
  obtain ⟨ps, r, h, e⟩ := h
  cases h with
  | stop h0 =>
    unfold cutOf at e
    split at e
    · cases e
    · simp only [List.nil_append, List.cons.injEq] at e
      obtain ⟨_, rfl⟩ := e
      exact Rule.Cuts.nil
  | @go _ k qs _ h1 h2 h3 =>
    have e2 : cs = cutOf qs r := by
      unfold cutOf at e ⊢
      split at e
      · rename_i er; rw [if_pos er]; simp only [List.cons.injEq] at e; exact e.2
      · rename_i er; rw [if_neg er]; simp only [List.cons_append, List.cons.injEq] at e; exact e.2
    have : R.Cuts (l.drop k) cs := ⟨qs, r, h3, e2⟩
    rw [this.join]
    exact this
theorem Rule.Cuts.drop {R : Rule} : ∀ {cs : List (List Nat)} {l : List Nat} (_ : R.Cuts l cs) (i : Nat), R.Cuts (cs.drop i).flatten (cs.drop i)
  | cs, l, h, 0 => by rw [List.drop_zero, h.join]; exact h
  | [], l, h, i + 1 => by simp only [List.drop_nil]; exact Rule.Cuts.nil
  | p :: cs, l, h, i + 1 => by rw [List.drop_succ_cons]; exact Rule.Cuts.drop h.tail i
inductive Fxd (n : Nat) : List Nat → List (List Nat) → Prop
  | nil : Fxd n [] []
  | cons {l : List Nat} {ps : List (List Nat)} : l.length ≠ 0 → Fxd n (l.drop (min n l.length)) ps → Fxd n l (l.take (min n l.length) :: ps)
theorem Fxd.join {n : Nat} {l : List Nat} {ps : List (List Nat)} (h : Fxd n l ps) : ps.flatten = l := by
  induction h with
  | nil => rfl
  | cons _ _ ih => rw [List.flatten_cons, ih, List.take_append_drop]
end Plain
end Go.Proofs.YtpfmfigommmjiaaDoor
namespace Go.Proofs.YtpfmfigommmjiaaDoor
open Go.RowKit Plain
def cutRule (mn mx b : Nat) : Rule := ⟨mn, mx, fun l => rof l % 2 ^ b == 0⟩
end Go.Proofs.YtpfmfigommmjiaaDoor
namespace Go.Proofs.YtpfmfigommmjiaaDoor
open Go.RowKit Plain
theorem strN_take (s : ByteArray) (k : Nat) : strN (s.extract 0 k) = (strN s).take k := by
  rw [extract_strN', List.drop_zero, Nat.sub_zero]
theorem strN_drop (s : ByteArray) (k : Nat) : strN (s.extract k s.size) = (strN s).drop k := extract_strN s k
def Pre (R : Rule) (s : ByteArray) (ps : List ByteArray) (r : ByteArray) : Prop :=
  ps.length + r.size ≤ s.size ∧ ∀ qs t, R.Pcs (strN r) qs t → R.Pcs (strN s) (ps.map strN ++ qs) t
theorem Pre.start (R : Rule) (s : ByteArray) : Pre R s [] s := ⟨by simp, fun _ _ h => h⟩
theorem Pre.step {R : Rule} {s : ByteArray} {ps : List ByteArray} {r : ByteArray} (h : Pre R s ps r) {k : Nat} (hk : 1 ≤ k) (he : R.End (strN r) k) : Pre R s (ps ++ [r.extract 0 k]) (r.extract k r.size) := by
  have hl := he.le
  rw [strN_length] at hl
  refine ⟨?_, fun qs t g => ?_⟩
  · have := h.1
    rw [List.length_append, List.length_singleton, ByteArray.size_extract]
    omega
  · rw [strN_drop] at g
    have := h.2 _ _ (Rule.Pcs.go hk he g)
    rw [List.map_append, List.append_assoc, List.map_cons, List.map_nil, strN_take]
    exact this
theorem Pre.stop {R : Rule} {s : ByteArray} {ps : List ByteArray} {r : ByteArray} (h : Pre R s ps r) (he : R.End (strN r) 0) : R.Pcs (strN s) (ps.map strN) (strN r) := by
  have := h.2 [] (strN r) (.stop he)
  simpa using this
end Go.Proofs.YtpfmfigommmjiaaDoor
namespace Go.Proofs.YtpfmfigommmjiaaDoor
open Go.RowKit Plain
def CutOk (mn mx b : Int) : Prop := 16 ≤ mn ∧ mn ≤ mx ∧ mx ≤ 1024 ∧ 1 ≤ b ∧ b ≤ 12
def ruleI (mn mx b : Int) : Rule := cutRule mn.toNat mx.toNat b.toNat
end Go.Proofs.YtpfmfigommmjiaaDoor
namespace Go.Proofs.YtpfmfigommmjiaaDoor
open Go.RowKit Plain Go.Maps
set_option linter.unusedVariables false
set_option linter.unusedSimpArgs false
abbrev Wy := Int × Int × Int × Int
def WyOk (y : Wy) : Prop := if y.1 = 0 then CutOk y.2.1 y.2.2.1 y.2.2.2 else 16 ≤ y.1 ∧ y.1 ≤ 1024
def PcsOf (y : Wy) (s : ByteArray) (ps : List ByteArray) : Prop := if y.1 = 0 then (ruleI y.2.1 y.2.2.1 y.2.2.2).Cuts (strN s) (ps.map strN) else Fxd y.1.toNat (strN s) (ps.map strN)
theorem strNs_injW : ∀ {l m : List ByteArray}, l.map strN = m.map strN → l = m
  | [], [], _ => rfl
  | [], _ :: _, h => by simp at h
  | _ :: _, [], h => by simp at h
  | x :: l, y :: m, h => by
    simp only [List.map_cons, List.cons.injEq] at h
    rw [strN_inj h.1, strNs_injW h.2]
theorem Fxd.unique {n : Nat} {l : List Nat} {ps : List (List Nat)} (h : Fxd n l ps) : ∀ {qs}, Fxd n l qs → ps = qs := by
  induction h with
  | nil => intro qs g; cases g with
    | nil => rfl
    | cons h0 _ => exact absurd rfl h0
  | cons h0 _ ih => intro qs g; cases g with
    | nil => exact absurd rfl h0
    | cons _ g2 => rw [ih g2]
theorem PcsOf.unique {y : Wy} {s : ByteArray} {ps qs : List ByteArray} (h : PcsOf y s ps) (g : PcsOf y s qs) : ps = qs := by
  unfold PcsOf at h g
  split at h
  · rename_i e; rw [if_pos e] at g; exact strNs_injW (h.unique g)
  · rename_i e; rw [if_neg e] at g; exact strNs_injW (Fxd.unique h g)
theorem PcsOf.join {y : Wy} {s : ByteArray} {ps : List ByteArray} (h : PcsOf y s ps) : (ps.map strN).flatten = strN s := by
  unfold PcsOf at h
  split at h
  · exact h.join
  · exact h.join
open Classical in
noncomputable def pcsF (y : Wy) (s : ByteArray) : List ByteArray := if h : ∃ ps, PcsOf y s ps then h.choose else []
def PcsGood (y : Wy) (s : ByteArray) : Prop := PcsOf y s (pcsF y s) ∧ (∀ p ∈ pcsF y s, 1 ≤ p.size ∧ p.size ≤ 1024) ∧ (pcsF y s).length ≤ s.size / 16 + 1
def mkI (l : List Nat) : ID8 := (l.getD 0 0, l.getD 1 0, l.getD 2 0, l.getD 3 0, l.getD 4 0, l.getD 5 0, l.getD 6 0, l.getD 7 0)
def idB (b : Bl) : ID8 := mkI (pidL b)
def nmW (x : It) : ByteArray := ⟨((nk x.1).getLast?.getD []).toArray⟩
def mkN (x : It) (sz : Int) (ids : List ID8) (lk : ByteArray) : MN := (nmW x, x.2.1, x.2.2.1, x.2.2.2.1, sz, (none, 0, ids), lk)
open Classical in
noncomputable def textF (l : List MN) : Option ByteArray := if h : ∃ t : ByteArray, WOk l ∧ Tx (l.map ndOf) (strN t) ∧ t.size ≤ 4096 then some h.choose else none
abbrev Sub := KT → Option (ByteArray × List Bl)
def dB (s : ByteArray) : Bl := (1, s)
open Classical in
noncomputable def nodeP (y : Wy) (sub : Sub) (x : It) : Option (MN × List Bl) :=
  if x.2.1 = 1 then if ¬ PcsGood y x.2.2.2.2 then none else some (mkN x x.2.2.2.2.size ((pcsF y x.2.2.2.2).map fun s => idB (dB s)) ⟨#[]⟩, (pcsF y x.2.2.2.2).map dB)
  else if x.2.1 = 2 then (sub (nk x.1)).map fun r => (mkN x 0 [idB (2, r.1)] ⟨#[]⟩, r.2)
  else some (mkN x 0 [] x.2.2.2.2, [])
noncomputable def nodesP (y : Wy) (sub : Sub) : List It → Option (List MN × List Bl)
  | [] => some ([], [])
  | x :: l => match nodeP y sub x with
    | none => none
    | some (m, S) => match nodesP y sub l with
      | none => none
      | some (ms, Ss) => some (m :: ms, S ++ Ss)
theorem nodesP_append (y : Wy) (sub : Sub) : ∀ (l m : List It), nodesP y sub (l ++ m) = match nodesP y sub l with
    | none => none
    | some (a, S) => match nodesP y sub m with
      | none => none
      | some (b, R) => some (a ++ b, S ++ R)
  | [], m => by
    simp only [List.nil_append, nodesP]
    cases nodesP y sub m with
    | none => rfl
    | some p => rfl
  | x :: l, m => by
    rw [List.cons_append, nodesP, nodesP, nodesP_append y sub l m]
    cases nodeP y sub x with
    | none => rfl
    | some p =>
      cases nodesP y sub l with
      | none => rfl
      | some q =>
        cases nodesP y sub m with
        | none => rfl
        | some r => simp
theorem nodesP_snoc (y : Wy) (sub : Sub) (l : List It) (x : It) : nodesP y sub (l ++ [x]) = match nodesP y sub l with
    | none => none
    | some (a, S) => match nodeP y sub x with
      | none => none
      | some (m, R) => some (a ++ [m], S ++ R) := by
  rw [nodesP_append]
  cases nodesP y sub l with
  | none => rfl
  | some p =>
    simp only [nodesP]
    cases nodeP y sub x with
    | none => rfl
    | some q => simp
noncomputable def dirG (y : Wy) (w : List It) (sub : Sub) (k : KT) : Option (ByteArray × List Bl) :=
  match nodesP y sub (kidsW w k) with
  | none => none
  | some (l, S) => (textF l).map fun t => (t, S ++ [((2 : Int), t)])
noncomputable def dirP (y : Wy) (w : List It) : Nat → Sub
  | 0 => dirG y w (fun _ => none)
  | n + 1 => dirG y w (dirP y w n)
noncomputable def subP (y : Wy) (w : List It) : Nat → Sub
  | 0 => fun _ => none
  | n + 1 => dirP y w n
def putF (st : Option (List Bl)) (b : Bl) : Option (List Bl) :=
  match st with
  | none => none
  | some out => if pcode b = 0 then (match out.find? (fun c => pidL c == pidL b) with
    | none => some (out ++ [b])
    | some c => if c = b then some out else none) else none
def addF (st : Option (List Bl)) (S : List Bl) : Option (List Bl) := S.foldl putF st
theorem addF_none : ∀ S, addF none S = none
  | [] => rfl
  | b :: S => addF_none S
theorem addF_append (st : Option (List Bl)) (S R : List Bl) : addF st (S ++ R) = addF (addF st S) R := List.foldl_append
def IdsOk (out : List Bl) : Prop := (∀ b ∈ out, pcode b = 0) ∧ (out.map pidL).Nodup
theorem ids_inj {out : List Bl} (h : IdsOk out) {b c : Bl} (hb : b ∈ out) (hc : c ∈ out) (e : pidL b = pidL c) : b = c := by
  have h2 := h.2
  induction out with
  | nil => cases hb
  | cons d out ih =>
    rw [List.map_cons, List.nodup_cons] at h2
    rcases List.mem_cons.1 hb with e1 | hb1
    · rcases List.mem_cons.1 hc with e2 | hc1
      · rw [e1, e2]
      · exact absurd (List.mem_map.2 ⟨c, hc1, by rw [← e, e1]⟩) h2.1
    · rcases List.mem_cons.1 hc with e2 | hc1
      · exact absurd (List.mem_map.2 ⟨b, hb1, by rw [e, e2]⟩) h2.1
      · exact ih ⟨fun x hx => h.1 x (List.mem_cons_of_mem _ hx), h2.2⟩ hb1 hc1 h2.2
def Planted (y : Wy) (w : List It) (out : List Bl) (id : List Nat) : Prop := WyOk y ∧ wcode w = 0 ∧ ∃ t S, dirP y w 8 [] = some (t, S) ∧ addF (some []) S = some out ∧ id = pidL (2, t)
theorem Planted.unique {y : Wy} {w : List It} {out out' : List Bl} {id id' : List Nat} (h : Planted y w out id) (g : Planted y w out' id') : out = out' ∧ id = id' := by
  obtain ⟨_, _, t, S, h1, h2, rfl⟩ := h
  obtain ⟨_, _, t', S', g1, g2, rfl⟩ := g
  rw [h1] at g1
  simp only [Option.some.injEq, Prod.mk.injEq] at g1
  obtain ⟨rfl, rfl⟩ := g1
  rw [h2] at g2
  injection g2 with g2
  exact ⟨g2, rfl⟩
end Go.Proofs.YtpfmfigommmjiaaDoor
namespace Go.Proofs.YtpfmfigommmjiaaDoor
open Go.RowKit Plain Go.ChangeMaps
set_option linter.unusedVariables false
set_option linter.unusedSimpArgs false
section
variable {α : Type} (vf : α → Value)
def ieM (p : (List Nat × α) × Nat) : MapEntry := { key := .agg (bC p.1.1), val := vf p.1.2, born := p.2 }
def imE (es : List (List Nat × α)) : Array MapEntry := (es.zipIdx.map (ieM vf)).toArray
def imO (es : List (List Nat × α)) : Obj := .map (imE vf es) es.length
def ilk (es : List (List Nat × α)) (k : List Nat) : Option α := (es.find? (fun e => e.1 == k)).map (·.2)
theorem ilk_snoc (es : List (List Nat × α)) (k : List Nat) (v : α) (q : List Nat) : ilk (es ++ [(k, v)]) q = (match ilk es q with | some x => some x | none => if k = q then some v else none) := by
  unfold ilk
  rw [List.find?_append]
  cases h : es.find? (fun e => e.1 == q) with
  | some e => simp
  | none =>
    by_cases hq : k = q
    · simp [hq]
    · simp [hq]
theorem info_u8I : ∃ i, Tryd.prog.info? 5 = some i := by
  have h : (Tryd.prog.info? 5).isSome = true := by kernel_rfl
  exact Option.isSome_iff_exists.1 h
theorem cells_u8I : Tryd.prog.cellsOf 5 = 1 := by kernel_rfl
theorem eql_id8 (w : World) (a b : List Nat) (ha : a.length = 8) (hb : b.length = 8) : (binOp .eql 43 (.agg (bC a)) (.agg (bC b))).run Tryd.prog w = .ok (.bool (decide (a = b))) w := by
  obtain ⟨inf, hi⟩ := info_u8I
  exact run_eql_bytes w Tryd.underlying43 Tryd.underlying5 hi cells_u8I a b ha hb
end
end Go.Proofs.YtpfmfigommmjiaaDoor
namespace Go.Proofs.YtpfmfigommmjiaaDoor
open Go.RowKit Plain Go.Maps Go.ChangeMaps
set_option linter.unusedVariables false
set_option linter.unusedSimpArgs false
theorem lt_of_blockW {w : World} {b : Nat} {o : Obj} (h : w.heap[b]? = some o) : b < w.heap.size := (Array.getElem?_eq_some_iff.1 h).1
theorem own_of_block {w w' : World} {base : Nat} {e : TypeId} {k : Nat} {v : Value} {n : Nat} {xs : List Value} (h : w.ownsRow base e k v n xs) (hb : ∀ (g : Nat) (cs : Array Value), v.ownBlock = some g → w.heap[g]? = some (Obj.cells cs e (0, 0)) → w'.heap[g]? = w.heap[g]?) : w'.ownsRow base e k v n xs := by
  refine ⟨h.1, ?_⟩
  rcases h.2 with hv | ⟨g, cap, cur, hv, hB, hg, h3⟩
  · exact .inl hv
  · exact .inr ⟨g, cap, cur, hv, hB, (hb g cur (by rw [hv]; rfl) hg).trans hg, h3⟩
theorem own_typ {w : World} {base : Nat} {e : TypeId} {k : Nat} {v : Value} {n : Nat} {xs : List Value} (h : w.ownsRow base e k v n xs) {g : Nat} (hg : v.ownBlock = some g) : base ≤ g ∧ g < w.heap.size ∧ ∃ cs, w.heap[g]? = some (Obj.cells cs e (0, 0)) := by
  rcases h.2 with ⟨rfl, _⟩ | ⟨g', cap, cur, rfl, hB, hh, _⟩
  · cases hg
  · injection hg with hg
    subst hg
    exact ⟨hB, lt_of_block hh, cur, hh⟩
abbrev HM (w : World) (b n : Nat) (D : DataW Value) : Prop := w.ownsMap Tryd.prog 9 (fun v => some (.held v, [])) b n D
theorem HM.of_block {w w' : World} {b n : Nat} {D : DataW Value} (h : HM w b n D) (e : w'.heap[b]? = w.heap[b]?) : HM w' b n D := by
  obtain ⟨es, clock, hb, rest⟩ := h
  exact ⟨es, clock, e.trans hb, rest⟩
def kidsQ (w : List It) (q : ByteArray) : List It := w.filter fun x => decide (parent x.1 = q)
def blV (b : Bl) : Value := .agg (blC b).toArray
def esOf (out : List Bl) : List (List Nat × Bl) := out.map fun b => (pidL b, b)
theorem not_map_cells {w : World} {k : Nat} {cs : Array Value} {t : TypeId} {fr : Nat × Nat} {es : Array MapEntry} {cl : Nat} (h : w.heap[k]? = some (Obj.cells cs t fr)) (g : w.heap[k]? = some (Obj.map es cl)) : False := by
  rw [h] at g; injection g with g; cases g
theorem hm_isMap {w : World} {b n : Nat} {D : DataW Value} (h : HM w b n D) : ∃ es cl, w.heap[b]? = some (Obj.map es cl) := by
  obtain ⟨es, clock, hb, _⟩ := h
  exact ⟨es, clock, hb⟩
end Go.Proofs.YtpfmfigommmjiaaDoor
namespace Go.Proofs.YtpfmfigommmjiaaDoor
open Go.RowKit Plain Go.Maps Go.ChangeMaps
set_option linter.unusedVariables false
set_option linter.unusedSimpArgs false
end Go.Proofs.YtpfmfigommmjiaaDoor
namespace Go.Proofs.YtpfmfigommmjiaaDoor
open Go.RowKit Plain Go.Maps Go.ChangeMaps
set_option linter.unusedVariables false
set_option linter.unusedSimpArgs false
end Go.Proofs.YtpfmfigommmjiaaDoor
namespace Go.Proofs.YtpfmfigommmjiaaDoor
open Go.RowKit Plain Go.Maps Go.ChangeMaps
set_option linter.unusedVariables false
set_option linter.unusedSimpArgs false
theorem val_binX {P : Program} {o : Oper} {a : Act} {x y : Operand} {t t2 : TypeId} {bo : BinOp} {u v : Value} {b : Bool} {w : World} (ho : o.op = .binOp bo t x y t2) (hx : a.eval x = u) (hy : a.eval y = v) (hr : (binOp bo t u v).run P w = .ok (.bool b) w) (hg : (eqGuard bo t x y u v).run P w = .ok () w) : (execOp a.eval o).run P w = .ok (.value (.bool b)) w := by
  unfold execOp
  simp only [ho, hx, hy, Sem.run_bind, hr, hg, Sem.run_pure, Result.andThen_ok]
def idK (x : List Nat) : List Value := x.map bV
def IdsL (l : List (List Nat)) : Prop := ∀ x ∈ l, x.length = 8
theorem sizeK_id (x : List Nat) (h : x.length = 8) : (idK x).length = 8 := by simp [idK, h]
set_option maxRecDepth 100000 in
theorem eqK_id (x z : List Nat) (hx : x.length = 8) (hz : z.length = 8) : (∀ wx, (binOp .eql 43 (.agg (idK x).toArray) (.agg (idK z).toArray)).run Tryd.prog wx = .ok (.bool (decide (x = z))) wx) ∧ ∀ (o : BinOp) (a b : Operand) (wx : World), (eqGuard o 43 a b (.agg (idK x).toArray) (.agg (idK z).toArray)).run Tryd.prog wx = .ok () wx := by
  refine ⟨fun wx => ?_, fun o a b wx => run_eqGuard_agg wx o _ a b _ _ (by kernel_rfl)⟩
  exact eql_id8 wx x z hx hz
theorem row_rangeI {w : World} {b : Nat} {t : TypeId} {l : List Value} (h : w.heap[b]? = some (.cells l.toArray t (0, 0))) : w.rangeAt b 0 l := fun j v hj => by
  rw [Nat.zero_add, cell_of_row _ _ _ _ _ _ h]
  simpa using hj
set_option maxRecDepth 100000 in
set_option maxHeartbeats 2000000 in
theorem indexId_any (a : Option Addr) (cap : Nat) (l : List (List Nat)) (p : List Nat) (hp : p.length = 8) (hk : IdsL l) (w : World) (h : SAt 8 idK w a l) (hl : l.length ≤ 9223372036854775807) :
    Calls Tryd.prog 49 #[.slice a l.length cap, .agg (idK p).toArray] w fun e w' => ((∃ i : Nat, e = .returned (.int .i64 (i : Int)) ∧ p ∈ l) ∨ (e = .returned (.int .i64 (-1)) ∧ p ∉ l)) ∧ Below w.heap.size w w' := by
  have HS := Lib.hid h
  have HB0 := Lib.hid ((Below.refl w.heap.size w).alloc (Nat.le_refl _) (.cells (idK p).toArray 43))
  have HR0 := Lib.hid (heap_alloc_new w (.cells (idK p).toArray 43))
  have hu := Tryd.underlying43
  have ICZ : Hid ((Tryd.prog.info? 43).map (·.size) = some 8) := Lib.hid (by show _ = _; kernel_rfl)
  have HPL : Hid ((idK p).length = 8) := Lib.hid (sizeK_id p hp)
  have HEQ := Lib.hid fun (q : List Nat) (hq : q.length = 8) => eqK_id p q hp hq
  have HP : Hid (p = p) := Lib.hid rfl
  have HK := Lib.hid hk
  generalize hpc : idK p = pc at *
  clear h hpc
  go_enter Tryd.func49, Tryd.ntmps49
  go_wp2_with fail
  generalize w.alloc (.cells pc.toArray 43) = w1 at *
  go_loopw [8] (fun iv wr => ∃ k : Nat, k ≤ l.length ∧ iv = .int .i64 (k : Int) ∧ (∀ j (h : j < l.length), j < k → l[j] ≠ p) ∧ wr.heap[w.heap.size]? = some (.cells pc.toArray 43 (0, 0)) ∧ Below w.heap.size w wr) (fun iv _ => l.length - (intOf iv).toNat)
  case atStart => exact ⟨0, Nat.zero_le _, rfl, fun j h hj => absurd hj (Nat.not_lt_zero _), HR0.out, HB0.out⟩
  case round =>
    obtain ⟨k, hk, rfl, hno, hrow, hbx⟩ := hrel
    have HNO := Lib.hid hno
    have HROW := Lib.hid hrow
    have HBX := Lib.hid hbx
    clear hno hrow hbx HB0 HR0
    by_cases hlt : k < l.length
    · have kk : (k : Int) < (l.length : Int) := by omega
      have k0 : (0 : Int) ≤ (k : Int) := Int.natCast_nonneg _
      obtain ⟨g, off, rfl, hg, hrng⟩ := (HS.out.below HBX.out) k hlt
      have HRG := Lib.hid hrng
      have HSTEP : Hid (l[k] ≠ p → ∀ j (h : j < l.length), j < k + 1 → l[j] ≠ p) := fun hne j h hj => by
        rcases Nat.lt_or_ge j k with h1 | h1
        · exact HNO.out j h h1
        · obtain rfl : j = k := by omega
          exact hne
      have HMEM : Hid (l[k] ∈ l) := Lib.hid (List.getElem_mem hlt)
      generalize hq : l[k] = q at *
      obtain ⟨E1, E3⟩ := HEQ.out q (HK.out q HMEM.out)
      have HQL : Hid ((idK q).length = 8) := Lib.hid (sizeK_id q (HK.out q HMEM.out))
      obtain ⟨b, hb⟩ : ∃ b, decide (p = q) = b := ⟨_, rfl⟩
      rw [hb] at E1
      have HBB : Hid (b = true ↔ p = q) := Lib.hid (by rw [← hb, decide_eq_true_iff])
      generalize hqc : idK q = qc at *
      have HE1 := Lib.hid E1
      have HE3 := Lib.hid E3
      have ic1 : (Tryd.prog.info? 43).map (·.size) = some pc.length := by rw [HPL.out]; exact ICZ.out
      have ic2 : (Tryd.prog.info? 43).map (·.size) = some qc.length := by rw [HQL.out]; exact ICZ.out
      clear hrng hq hb E1 E3 hqc HEQ
      go_wp2_with fail
      refine wp_region_noPanic ?_
      refine wp_region_held_drew (S := fun w' => w'.rangeAt w.heap.size 0 pc ∧ w'.rangeAt g (off + k * 8) qc) (by kernel_rfl) ⟨row_rangeI (show wr.drew.heap[w.heap.size]? = _ from HROW.out), HRG.out⟩ (fun hS0 => ?_)
      have HS0 := Lib.hid hS0
      have HR1 : Hid (wr.drew.heap[w.heap.size]? = some (.cells pc.toArray 43 (0, 0))) := HROW.out
      have HB1 : Hid (Below w.heap.size w wr.drew) := HBX.out.drew
      clear hS0 HROW HBX
      generalize wr.drew = v0 at *
      refine take_row 0 rfl (by kernel_rfl) (by kernel_rfl) (by kernel_rfl) (fun _ _ _ _ h => h) (by rfl) rfl rfl rfl (fun _ hS => hS.1) hu rfl ic1 HS0.out ?_
      try simp only [List.set_cons_zero, List.set_cons_succ]
      refine take_val 1 (.slice (some ⟨g, off, none⟩) l.length cap) rfl (by kernel_rfl) (by kernel_rfl) (by kernel_rfl) (fun _ _ _ _ h => h) (by rfl) rfl (fun w _ => by go_simp) HS0.out ?_
      try simp only [List.set_cons_zero, List.set_cons_succ]
      refine take_val 2 (.int .i64 (k : Int)) rfl (by kernel_rfl) (by kernel_rfl) (by kernel_rfl) (fun _ _ _ _ h => h) (by rfl) rfl (fun w _ => by go_simp) HS0.out ?_
      try simp only [List.set_cons_zero, List.set_cons_succ]
      refine take_val 3 (.pointer (some ⟨g, off + k * 8, none⟩)) rfl (by kernel_rfl) (by kernel_rfl) (by kernel_rfl) (fun _ _ _ _ h => h) (by rfl) rfl (fun w _ => by go_simp) HS0.out ?_
      try simp only [List.set_cons_zero, List.set_cons_succ]
      refine take_row 4 rfl (by kernel_rfl) (by kernel_rfl) (by kernel_rfl) (fun _ _ _ _ h => h) (by rfl) rfl rfl rfl (fun _ hS => hS.2) hu rfl ic2 HS0.out ?_
      try simp only [List.set_cons_zero, List.set_cons_succ]
      refine take_val 5 (.bool b) rfl (by kernel_rfl) (by kernel_rfl) (by kernel_rfl) (fun _ _ _ _ h => h) (by rfl) rfl (fun w _ => val_binX rfl rfl rfl (HE1.out w) (HE3.out _ _ _ w)) HS0.out ?_
      try simp only [List.set_cons_zero, List.set_cons_succ]
      refine wpAnyH_done (by kernel_rfl) ?_ _
      refine NoPanic.normal ?_
      cases b with
      | true =>
        have HIN : Hid (p ∈ l) := Lib.hid (by rw [HBB.out.1 rfl]; exact HMEM.out)
        clear HBB
        go_wp2_with fail
        go_ret
        exact ⟨.inl ⟨k, rfl, HIN.out⟩, HB1.out⟩
      | false =>
        have HN := Lib.hid (HSTEP.out (fun h => by have := HBB.out.2 h.symm; cases this))
        clear HBB HSTEP
        go_wp2_with fail
        go_roundw
        case rel => exact ⟨k + 1, by omega, by go_num, HN.out, HR1.out, HB1.out⟩
        case measure => simp [intOf]; omega
    · have kk : ¬ (k : Int) < (l.length : Int) := by omega
      have HNI : Hid (p ∉ l) := Lib.hid fun hm => by
        obtain ⟨j, hj, e⟩ := List.mem_iff_getElem.1 hm
        exact HNO.out j hj (by omega) e
      go_wp2_with fail
      go_ret
      exact ⟨.inr ⟨rfl, HNI.out⟩, HBX.out⟩
set_option maxRecDepth 100000 in
theorem containsId_any (a : Option Addr) (cap : Nat) (l : List (List Nat)) (p : List Nat) (hp : p.length = 8) (hk : IdsL l) (w : World) (h : SAt 8 idK w a l) (hl : l.length ≤ 9223372036854775807) :
    Calls Tryd.prog 33 #[.slice a l.length cap, .agg (idK p).toArray] w fun e w' => (∃ r : Bool, e = .returned (.bool r) ∧ (r = true ↔ p ∈ l)) ∧ Below w.heap.size w w' := by
  have HB0 := Lib.hid ((Below.refl w.heap.size w).alloc (Nat.le_refl _) (.cells (idK p).toArray 43))
  have HI := Lib.hid (indexId_any a cap l p hp hk (w.alloc (.cells (idK p).toArray 43)) (h.below HB0.out) hl)
  have HR0 := Lib.hid (heap_alloc_new w (.cells (idK p).toArray 43))
  have HPL : Hid ((idK p).length = 8) := Lib.hid (sizeK_id p hp)
  have ICZ : Hid ((Tryd.prog.info? 43).map (·.size) = some 8) := Lib.hid (by show _ = _; kernel_rfl)
  generalize idK p = pc at *
  have ic1 : Hid ((Tryd.prog.info? 43).map (·.size) = some pc.toArray.size) := Lib.hid (by
    have e : pc.toArray.size = 8 := HPL.out
    rw [e]
    exact ICZ.out)
  clear h hl
  go_enter Tryd.func33, Tryd.ntmps33
  go_wp2_with (with_reducible refine wpList_load_row rfl 43 (.tmp 3) rfl w.heap.size rfl 43 pc.toArray (0, 0) _ HR0.out Tryd.underlying43 rfl ?_ ?_; exact ic1.out)
  refine HI.out.mono ?_
  rintro e w2 ⟨⟨i, rfl, hin⟩ | ⟨rfl, hin⟩, hb⟩
  · have i0 : (0 : Int) ≤ (i : Int) := Int.natCast_nonneg _
    have B := Lib.hid (Below.step HB0.out hb)
    have HD := Lib.hid hin
    clear hb hin
    go_wp2_with fail
    go_ret
    exact ⟨⟨true, rfl, by simp [HD.out]⟩, B.out⟩
  · have B := Lib.hid (Below.step HB0.out hb)
    have HD := Lib.hid hin
    clear hb hin
    go_wp2_with fail
    go_ret
    exact ⟨⟨false, rfl, by simp [HD.out]⟩, B.out⟩
end Go.Proofs.YtpfmfigommmjiaaDoor
