/- Joined: IdsEq, WalkTells, WalkDirP, WalkDirM, WalkDir. -/
import Derived.Test.YtpfmfigommmjiaaDoorToAY
import Derived.Test.YtpfmfigommmjiaaDoorToAV
import Derived.Test.YtpfmfigommmjiaaDoorToAB
import Derived.ChangeKeysEq
import Derived.Laws.StructEq
namespace Go.Proofs.YtpfmfigommmjiaaDoor
open Go.RowKit Plain
set_option linter.unusedVariables false
set_option linter.unusedSimpArgs false
theorem equal_id8 (w : World) (a b : List Nat) (ha : a.length = 8) (hb : b.length = 8) : (Op.equal 43 (.agg (bC a)) (.agg (bC b))).run Tryd.prog w = .ok (decide (a = b)) w := by
  obtain ⟨inf, hi⟩ := info_u8I
  exact run_equal_bytes w Tryd.underlying43 Tryd.underlying5 hi cells_u8I a b ha hb
theorem neq_id8 (w : World) (a b : List Nat) (ha : a.length = 8) (hb : b.length = 8) : (binOp .neq 43 (.agg (bC a)) (.agg (bC b))).run Tryd.prog w = .ok (.bool (!decide (a = b))) w := by
  unfold binOp
  simp only [Sem.run_bind, equal_id8 w a b ha hb, Result.andThen_ok, Sem.run_pure]
set_option maxRecDepth 100000 in
theorem eqId8 (p q : ID8) (b : Bool) (hb : decide (idL p = idL q) = b) : (∀ wx, (binOp .eql 43 (.agg (idC p).toArray) (.agg (idC q).toArray)).run Tryd.prog wx = .ok (.bool b) wx) ∧ (∀ wx, (binOp .neq 43 (.agg (idC p).toArray) (.agg (idC q).toArray)).run Tryd.prog wx = .ok (.bool !b) wx) ∧
    (∀ (o : BinOp) (x y : Operand) (wx : World), (eqGuard o 43 x y (.agg (idC p).toArray) (.agg (idC q).toArray)).run Tryd.prog wx = .ok () wx) := by
  have hd := hb
  have h1 := eqK_id (idL p) (idL q) rfl rfl
  refine ⟨fun wx => ?_, fun wx => ?_, fun o x y wx => ?_⟩
  · have h := h1.1 wx
    rw [hd] at h
    exact h
  · have h := neq_id8 wx (idL p) (idL q) rfl rfl
    rw [hd] at h
    exact h
  · exact run_eqGuard_agg wx o _ x y _ _ (by kernel_rfl)
end Go.Proofs.YtpfmfigommmjiaaDoor
namespace Go.Proofs.YtpfmfigommmjiaaDoor
open Go.RowKit Plain Go.Maps
set_option linter.unusedVariables false
set_option linter.unusedSimpArgs false
abbrev Lk := List Nat → Option Bl
def idsN (m : MN) : List ID8 := m.2.2.2.2.2.1.2.2
def FileT (B : Lk) (l : List ID8) (s : ByteArray) : Prop := ∃ ps : List ByteArray, l.map (fun i => B (idL i)) = ps.map (fun p => some (dB p)) ∧ strN s = (ps.map strN).flatten
theorem dBs_inj : ∀ {l m : List ByteArray}, l.map (fun p => some (dB p)) = m.map (fun p => some (dB p)) → l = m
  | [], [], _ => rfl
  | [], _ :: _, h => by simp at h
  | _ :: _, [], h => by simp at h
  | x :: l, y :: m, h => by
    simp only [List.map_cons, List.cons.injEq, Option.some.injEq, dB, Prod.mk.injEq, true_and] at h
    have e := dBs_inj (l := l) (m := m) (by simpa [dB] using h.2)
    rw [h.1, e]
theorem FileT.unique {B : Lk} {l : List ID8} {s s' : ByteArray} (h : FileT B l s) (g : FileT B l s') : s = s' := by
  obtain ⟨ps, h1, h2⟩ := h
  obtain ⟨qs, g1, g2⟩ := g
  rw [h1] at g1
  rw [dBs_inj g1] at h2
  exact strN_inj (h2.trans g2.symm)
abbrev pthN (k : KT) (m : MN) : ByteArray := pthB (k ++ [bT m.1])
inductive NodesT (B : Lk) (sub : KT → List Nat → List It → Prop) (k : KT) : List MN → List It → Prop
  | nil : NodesT B sub k [] []
  | file {m : MN} {s : ByteArray} {ms : List MN} {l : List It} : m.2.1 = 1 → FileT B (idsN m) s → (s.size : Int) = m.2.2.2.2.1 → NodesT B sub k ms l → NodesT B sub k (m :: ms) ((pthN k m, m.2.1, m.2.2.1, m.2.2.2.1, s) :: l)
  | dir {m : MN} {i : ID8} {ms : List MN} {l l1 : List It} : m.2.1 = 2 → idsN m = [i] → sub (k ++ [bT m.1]) (idL i) l1 → NodesT B sub k ms l → NodesT B sub k (m :: ms) ((pthN k m, m.2.1, m.2.2.1, m.2.2.2.1, m.2.2.2.2.2.2) :: (l1 ++ l))
  | link {m : MN} {ms : List MN} {l : List It} : m.2.1 ≠ 1 → m.2.1 ≠ 2 → NodesT B sub k ms l → NodesT B sub k (m :: ms) ((pthN k m, m.2.1, m.2.2.1, m.2.2.2.1, m.2.2.2.2.2.2) :: l)
def TellsW (B : Lk) : Nat → KT → List Nat → List It → Prop
  | 0, _, id, l => l = [] ∧ ∃ t, B id = some (2, t) ∧ ROk t []
  | n + 1, k, id, l => ∃ t ms, B id = some (2, t) ∧ ROk t ms ∧ NodesT B (TellsW B n) k ms l
theorem NodesT.unique {B : Lk} {sub : KT → List Nat → List It → Prop} {k : KT} (hs : ∀ k id l l', sub k id l → sub k id l' → l = l') {ms : List MN} {l : List It} (h : NodesT B sub k ms l) : ∀ {ms' : List MN} {l' : List It}, NodesT B sub k ms' l' → ms.map ndOf = ms'.map ndOf → l = l' := by
  induction h with
  | nil => intro ms' l' g e; cases g <;> first | rfl | simp at e
  | @file m s ms l h1 h2 h3 _ ih =>
    intro ms' l' g e
    cases g with
    | nil => simp at e
    | file g1 g2 g3 g4 =>
      simp only [List.map_cons, List.cons.injEq] at e
      obtain ⟨pp, cc, em⟩ := ndOf_eq e.1
      subst em
      rw [FileT.unique h2 g2, ih g4 e.2]
    | dir g1 g2 g3 g4 =>
      simp only [List.map_cons, List.cons.injEq] at e
      obtain ⟨pp, cc, em⟩ := ndOf_eq e.1
      subst em
      rw [h1] at g1; cases g1
    | link g1 g2 g4 =>
      simp only [List.map_cons, List.cons.injEq] at e
      obtain ⟨pp, cc, em⟩ := ndOf_eq e.1
      subst em
      exact absurd h1 g1
  | @dir m i ms l l1 h1 h2 h3 _ ih =>
    intro ms' l' g e
    cases g with
    | nil => simp at e
    | file g1 g2 g3 g4 =>
      simp only [List.map_cons, List.cons.injEq] at e
      obtain ⟨pp, cc, em⟩ := ndOf_eq e.1
      subst em
      rw [h1] at g1; cases g1
    | dir g1 g2 g3 g4 =>
      simp only [List.map_cons, List.cons.injEq] at e
      obtain ⟨pp, cc, em⟩ := ndOf_eq e.1
      subst em
      have e3 : idsN m = [_] := g2
      rw [h2] at e3
      injection e3 with e3 _
      subst e3
      rw [hs _ _ _ _ h3 g3, ih g4 e.2]
    | link g1 g2 g4 =>
      simp only [List.map_cons, List.cons.injEq] at e
      obtain ⟨pp, cc, em⟩ := ndOf_eq e.1
      subst em
      exact absurd h1 g2
  | @link m ms l h1 h2 _ ih =>
    intro ms' l' g e
    cases g with
    | nil => simp at e
    | file g1 g2 g3 g4 =>
      simp only [List.map_cons, List.cons.injEq] at e
      obtain ⟨pp, cc, em⟩ := ndOf_eq e.1
      subst em
      exact absurd g1 h1
    | dir g1 g2 g3 g4 =>
      simp only [List.map_cons, List.cons.injEq] at e
      obtain ⟨pp, cc, em⟩ := ndOf_eq e.1
      subst em
      exact absurd g1 h2
    | link g1 g2 g4 =>
      simp only [List.map_cons, List.cons.injEq] at e
      obtain ⟨pp, cc, em⟩ := ndOf_eq e.1
      subst em
      rw [ih g4 e.2]
theorem ROk.same {t : ByteArray} {l m : List MN} (h : ROk t l) (g : ROk t m) : l.map ndOf = m.map ndOf := h.2.2.unique g.2.2
theorem TellsW.unique {B : Lk} : ∀ (n : Nat) (k : KT) (id : List Nat) (l l' : List It), TellsW B n k id l → TellsW B n k id l' → l = l'
  | 0, _, _, _, _, h, g => h.1.trans g.1.symm
  | n + 1, k, id, l, l', ⟨t, ms, h1, h2, h3⟩, ⟨t', ms', g1, g2, g3⟩ => by
    rw [h1] at g1
    simp only [Option.some.injEq, Prod.mk.injEq, true_and] at g1
    subst g1
    exact h3.unique (fun k id l l' => TellsW.unique n k id l l') g3 (h2.same g2)
end Go.Proofs.YtpfmfigommmjiaaDoor
namespace Go.Proofs.YtpfmfigommmjiaaDoor
open Go.RowKit Plain Go.Maps Go.ChangeMaps
set_option linter.unusedVariables false
set_option linter.unusedSimpArgs false
def cnM (m : MN) : MN := (m.1, m.2.1, m.2.2.1, m.2.2.2.1, m.2.2.2.2.1, (none, 0, m.2.2.2.2.2.1.2.2), m.2.2.2.2.2.2)
noncomputable def stN (y : Wy) (sub : Sub) (l : List It) (st : Option (List Bl)) : Option (List Bl) := match nodesP y sub l with
  | none => none
  | some (_, S) => addF st S
noncomputable def stX (y : Wy) (sub : Sub) (x : It) (st : Option (List Bl)) : Option (List Bl) := match nodeP y sub x with
  | none => none
  | some (_, S) => addF st S
theorem stN_snoc (y : Wy) (sub : Sub) (l : List It) (x : It) (st : Option (List Bl)) : stN y sub (l ++ [x]) st = stX y sub x (stN y sub l st) := by
  unfold stN stX
  rw [nodesP_snoc]
  cases nodesP y sub l with
  | none =>
    cases nodeP y sub x with
    | none => rfl
    | some q => exact (addF_none _).symm
  | some p =>
    obtain ⟨a, S⟩ := p
    cases nodeP y sub x with
    | none => rfl
    | some q =>
      obtain ⟨m, R⟩ := q
      exact addF_append _ _ _
def flS (w : List It) : Nat → KT → List It
  | 0 => fun _ => []
  | n + 1 => flatW w n
def flL (w : List It) (n : Nat) (l : List It) : Nat := (l.flatMap fun x => x :: if x.2.1 = 2 then flS w n (nk x.1) else []).length
end Go.Proofs.YtpfmfigommmjiaaDoor
namespace Go.Proofs.YtpfmfigommmjiaaDoor
open Go.RowKit Plain Go.Maps Go.ChangeMaps
set_option linter.unusedVariables false
set_option linter.unusedSimpArgs false
end Go.Proofs.YtpfmfigommmjiaaDoor
namespace Go.Proofs.YtpfmfigommmjiaaDoor
open Go.RowKit Plain Go.Maps Go.ChangeMaps
set_option linter.unusedVariables false
set_option linter.unusedSimpArgs false
theorem info_idW : (Tryd.prog.info? 43).map (fun i => (i.zero, i.size, i.bytes)) = some (some (.agg (idC (0, 0, 0, 0, 0, 0, 0, 0)).toArray), 8, 8) := by kernel_rfl
theorem idC_one (t : ID8) : ∀ u ∈ idC t, u.oneCell' = true := by intro u hu; obtain ⟨v, _, rfl⟩ := List.mem_map.1 hu; rfl
end Go.Proofs.YtpfmfigommmjiaaDoor
