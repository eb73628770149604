/- Joined: WalkTells, WalkDirP, WalkDirM, TakeE, AmpleGen, Grown. -/
import Derived.Test.YtbfoonfbhebhfaaGreatDoorKGnX
import Derived.Test.YtbfoonfbhebhfaaGreatDoorKGnZ
import Derived.Test.YtbfoonfbhebhfaaGreatDoorKGnJ
import Derived.Test.YtbfoonfbhebhfaaGreatDoorKGnU
namespace Go.Proofs.YtbfoonfbhebhfaaGreatDoor
open Go.RowKit Plain Go.Maps
set_option linter.unusedVariables false
set_option linter.unusedSimpArgs false
abbrev Lk := List Nat → Option Bl
def idsN (m : MN) : List ID8 := m.2.2.2.2.2.1.2.2
def FileT (B : Lk) (l : List ID8) (s : ByteArray) : Prop := ∃ ps : List ByteArray, l.map (fun i => B (idL i)) = ps.map (fun p => some (dB p)) ∧ strN s = (ps.map strN).flatten
theorem dBs_inj : ∀ {l m : List ByteArray}, l.map (fun p => some (dB p)) = m.map (fun p => some (dB p)) → l = m
 | [], [], _ => rfl
 | [], _ :: _, h => by simp at h
 | _ :: _, [], h => by simp at h
 | x :: l, y :: m, h => by
  simp only [List.map_cons, List.cons.injEq, Option.some.injEq, dB, Prod.mk.injEq, true_and] at h
  have e := dBs_inj (l := l) (m := m) (by simpa [dB] using h.2)
  rw [h.1, e]
theorem FileT.unique {B : Lk} {l : List ID8} {s s' : ByteArray} (h : FileT B l s) (g : FileT B l s') : s = s' := by
 obtain ⟨ps, h1, h2⟩ := h
 obtain ⟨qs, g1, g2⟩ := g
 rw [h1] at g1
 rw [dBs_inj g1] at h2
 exact strN_inj (h2.trans g2.symm)
abbrev pthN (k : KT) (m : MN) : ByteArray := pthB (k ++ [bT m.1])
inductive NodesT (B : Lk) (sub : KT → List Nat → List It → Prop) (k : KT) : List MN → List It → Prop
 | nil : NodesT B sub k [] []
 | file {m : MN} {s : ByteArray} {ms : List MN} {l : List It} : m.2.1 = 1 → FileT B (idsN m) s → (s.size : Int) = m.2.2.2.2.1 → NodesT B sub k ms l → NodesT B sub k (m :: ms) ((pthN k m, m.2.1, m.2.2.1, m.2.2.2.1, s) :: l)
 | dir {m : MN} {i : ID8} {ms : List MN} {l l1 : List It} : m.2.1 = 2 → idsN m = [i] → sub (k ++ [bT m.1]) (idL i) l1 → NodesT B sub k ms l → NodesT B sub k (m :: ms) ((pthN k m, m.2.1, m.2.2.1, m.2.2.2.1, m.2.2.2.2.2.2) :: (l1 ++ l))
 | link {m : MN} {ms : List MN} {l : List It} : m.2.1 ≠ 1 → m.2.1 ≠ 2 → NodesT B sub k ms l → NodesT B sub k (m :: ms) ((pthN k m, m.2.1, m.2.2.1, m.2.2.2.1, m.2.2.2.2.2.2) :: l)
def TellsW (B : Lk) : Nat → KT → List Nat → List It → Prop
 | 0, _, id, l => l = [] ∧ ∃ t, B id = some (2, t) ∧ ROk t []
 | n + 1, k, id, l => ∃ t ms, B id = some (2, t) ∧ ROk t ms ∧ NodesT B (TellsW B n) k ms l
theorem NodesT.unique {B : Lk} {sub : KT → List Nat → List It → Prop} {k : KT} (hs : ∀ k id l l', sub k id l → sub k id l' → l = l') {ms : List MN} {l : List It} (h : NodesT B sub k ms l) : ∀ {ms' : List MN} {l' : List It}, NodesT B sub k ms' l' → ms.map ndOf = ms'.map ndOf → l = l' := by
 induction h with
 | nil => intro ms' l' g e; cases g <;> first | rfl | simp at e
 | @file m s ms l h1 h2 h3 _ ih =>
  intro ms' l' g e
  cases g with
  | nil => simp at e
  | file g1 g2 g3 g4 =>
   simp only [List.map_cons, List.cons.injEq] at e
   obtain ⟨pp, cc, em⟩ := ndOf_eq e.1
   subst em
   rw [FileT.unique h2 g2, ih g4 e.2]
  | dir g1 g2 g3 g4 =>
   simp only [List.map_cons, List.cons.injEq] at e
   obtain ⟨pp, cc, em⟩ := ndOf_eq e.1
   subst em
   rw [h1] at g1; cases g1
  | link g1 g2 g4 =>
   simp only [List.map_cons, List.cons.injEq] at e
   obtain ⟨pp, cc, em⟩ := ndOf_eq e.1
   subst em
   exact absurd h1 g1
 | @dir m i ms l l1 h1 h2 h3 _ ih =>
  intro ms' l' g e
  cases g with
  | nil => simp at e
  | file g1 g2 g3 g4 =>
   simp only [List.map_cons, List.cons.injEq] at e
   obtain ⟨pp, cc, em⟩ := ndOf_eq e.1
   subst em
   rw [h1] at g1; cases g1
  | dir g1 g2 g3 g4 =>
   simp only [List.map_cons, List.cons.injEq] at e
   obtain ⟨pp, cc, em⟩ := ndOf_eq e.1
   subst em
   have e3 : idsN m = [_] := g2
   rw [h2] at e3
   injection e3 with e3 _
   subst e3
   rw [hs _ _ _ _ h3 g3, ih g4 e.2]
  | link g1 g2 g4 =>
   simp only [List.map_cons, List.cons.injEq] at e
   obtain ⟨pp, cc, em⟩ := ndOf_eq e.1
   subst em
   exact absurd h1 g2
 | @link m ms l h1 h2 _ ih =>
  intro ms' l' g e
  cases g with
  | nil => simp at e
  | file g1 g2 g3 g4 =>
   simp only [List.map_cons, List.cons.injEq] at e
   obtain ⟨pp, cc, em⟩ := ndOf_eq e.1
   subst em
   exact absurd g1 h1
  | dir g1 g2 g3 g4 =>
   simp only [List.map_cons, List.cons.injEq] at e
   obtain ⟨pp, cc, em⟩ := ndOf_eq e.1
   subst em
   exact absurd g1 h2
  | link g1 g2 g4 =>
   simp only [List.map_cons, List.cons.injEq] at e
   obtain ⟨pp, cc, em⟩ := ndOf_eq e.1
   subst em
   rw [ih g4 e.2]
theorem ROk.same {t : ByteArray} {l m : List MN} (h : ROk t l) (g : ROk t m) : l.map ndOf = m.map ndOf := h.2.2.unique g.2.2
theorem TellsW.unique {B : Lk} : ∀ (n : Nat) (k : KT) (id : List Nat) (l l' : List It), TellsW B n k id l → TellsW B n k id l' → l = l'
 | 0, _, _, _, _, h, g => h.1.trans g.1.symm
 | n + 1, k, id, l, l', ⟨t, ms, h1, h2, h3⟩, ⟨t', ms', g1, g2, g3⟩ => by
  rw [h1] at g1
  simp only [Option.some.injEq, Prod.mk.injEq, true_and] at g1
  subst g1
  exact h3.unique (fun k id l l' => TellsW.unique n k id l l') g3 (h2.same g2)
theorem nodeP_some {y : Wy} {sub : Sub} {x : It} {m : MN} {S : List Bl} (h : nodeP y sub x = some (m, S)) :
  (x.2.1 = 1 ∧ PcsGood y x.2.2.2.2 ∧ m = mkN x x.2.2.2.2.size ((pcsF y x.2.2.2.2).map fun s => idB (dB s)) ⟨#[]⟩ ∧ S = (pcsF y x.2.2.2.2).map dB) ∨
  (x.2.1 = 2 ∧ ∃ t, sub (nk x.1) = some (t, S) ∧ m = mkN x 0 [idB (2, t)] ⟨#[]⟩) ∨
  (x.2.1 ≠ 1 ∧ x.2.1 ≠ 2 ∧ m = mkN x 0 [] x.2.2.2.2 ∧ S = []) := by
 unfold nodeP at h
 split at h
 ·
  rename_i h1
  split at h
  ·
   cases h
  ·
   rename_i h2
   simp only [Option.some.injEq, Prod.mk.injEq] at h
   exact .inl ⟨h1, by simpa using h2, h.1.symm, h.2.symm⟩
 ·
  rename_i h1
  split at h
  ·
   rename_i h2
   cases hs : sub (nk x.1) with
   | none => rw [hs] at h; cases h
   | some r =>
    rw [hs] at h
    simp only [Option.map_some, Option.some.injEq, Prod.mk.injEq] at h
    obtain ⟨t, S'⟩ := r
    obtain ⟨h3, rfl⟩ := h
    exact .inr (.inl ⟨h2, t, rfl, h3.symm⟩)
  ·
   rename_i h2
   simp only [Option.some.injEq, Prod.mk.injEq] at h
   exact .inr (.inr ⟨h1, h2, h.1.symm, h.2.symm⟩)
theorem nodesP_cons {y : Wy} {sub : Sub} {x : It} {l : List It} {ms : List MN} {S : List Bl} (h : nodesP y sub (x :: l) = some (ms, S)) : ∃ m R ms' R', nodeP y sub x = some (m, R) ∧ nodesP y sub l = some (ms', R') ∧ ms = m :: ms' ∧ S = R ++ R' := by
 unfold nodesP at h
 split at h
 ·
  cases h
 ·
  rename_i m R h1
  split at h
  ·
   cases h
  ·
   rename_i ms' R' h2
   simp only [Option.some.injEq, Prod.mk.injEq] at h
   exact ⟨m, R, ms', R', h1, h2, h.1.symm, h.2.symm⟩
def TmOk (w : List It) : Prop := ∀ x ∈ w, -9223372036854775808 ≤ x.2.2.2.1 ∧ x.2.2.2.1 ≤ 9223372036854775807
theorem nodes_from {y : Wy} {sub : Sub} : ∀ {l : List It} {ms : List MN} {S : List Bl}, nodesP y sub l = some (ms, S) → ∀ m ∈ ms, (∃ x ∈ l, m.2.2.2.1 = x.2.2.2.1) ∧ ∀ p ∈ idsN m, ∃ b, p = idB b
 | [], ms, S, h, m, hm => by
  simp only [nodesP, Option.some.injEq, Prod.mk.injEq] at h
  rw [← h.1] at hm; cases hm
 | x :: l, ms, S, h, m, hm => by
  obtain ⟨m', R, ms', R', h1, h2, rfl, rfl⟩ := nodesP_cons h
  rcases List.mem_cons.1 hm with rfl | hm
  ·
   rcases nodeP_some h1 with ⟨_, _, rfl, _⟩ | ⟨_, t, _, rfl⟩ | ⟨_, _, rfl, _⟩
   ·
    refine ⟨⟨x, by simp, rfl⟩, fun p hp => ?_⟩
    obtain ⟨s, _, rfl⟩ := List.mem_map.1 (show p ∈ (pcsF y x.2.2.2.2).map fun s => idB (dB s) from hp)
    exact ⟨_, rfl⟩
   ·
    refine ⟨⟨x, by simp, rfl⟩, fun p hp => ?_⟩
    rw [List.mem_singleton.1 (show p ∈ [idB (2, t)] from hp)]
    exact ⟨_, rfl⟩
   ·
    exact ⟨⟨x, by simp, rfl⟩, fun p hp => absurd (show p ∈ ([] : List ID8) from hp) (by simp)⟩
  ·
   obtain ⟨⟨z, hz, e⟩, h3⟩ := nodes_from h2 m hm
   exact ⟨⟨z, by simp [hz], e⟩, h3⟩
theorem mz_of {ms : List MN} (hw : WOk ms) (hp : ∀ m ∈ ms, ∀ p ∈ idsN m, ∃ b, p = idB b) (ht : ∀ m ∈ ms, -9223372036854775808 ≤ m.2.2.2.1 ∧ m.2.2.2.1 ≤ 9223372036854775807) : ∀ m ∈ ms, MZ m ∧ -9223372036854775808 ≤ m.2.2.2.1 ∧ m.2.2.2.1 ≤ 9223372036854775807 := fun m hm => by
 obtain ⟨h1, h2, h3, h4, h5, h6, h7⟩ := hw.1.2.1 m hm
 refine ⟨⟨by have := chk_size h1; omega, by omega, by omega, fun p hpm c hc => ?_⟩, ht m hm⟩
 obtain ⟨b, rfl⟩ := hp m hm p hpm
 rw [idL_idB] at hc
 exact pidL_lt b c hc
theorem rok_text {y : Wy} {sub : Sub} {w : List It} {k : KT} {ms : List MN} {R : List Bl} {t : ByteArray} (ht : TmOk w) (h : nodesP y sub (kidsW w k) = some (ms, R)) (h2 : textF ms = some t) : ROk t ms := by
 obtain ⟨g1, g2, g3⟩ := textF_some h2
 have hf := nodes_from h
 refine rOk_of g1 g2 g3 (mz_of g1 (fun m hm => (hf m hm).2) fun m hm => ?_)
 obtain ⟨x, hx, e⟩ := (hf m hm).1
 rw [e]
 exact ht x (kids_mem.1 hx).1
theorem nmW_of {x : It} {k : KT} {a : T} (e : nk x.1 = k ++ [a]) : bT (nmW x) = a := by
 unfold nmW
 rw [e]
 simp [bT]
theorem item_path {w : List It} (hw : Tre w) {x : It} (hx : x ∈ w) {k : KT} {a : T} (e : nk x.1 = k ++ [a]) : pthB (k ++ [bT (nmW x)]) = x.1 := by
 obtain ⟨f0, f1, _⟩ := icode_facts (hw.ok x hx)
 rw [nmW_of e, ← e, pthB_of f0 f1]
theorem nodesT_of {y : Wy} {w : List It} (hw : Tre w) {B : Lk} {k : KT} {sub : Sub} {tel : KT → List Nat → List It → Prop} {fl : KT → List It} (hsub : ∀ (x : It) (t : ByteArray) (S : List Bl), x ∈ kidsW w k → sub (nk x.1) = some (t, S) → (∀ b ∈ S, B (pidL b) = some b) → tel (nk x.1) (pidL (2, t)) (fl (nk x.1))) :
  ∀ (l : List It) (ms : List MN) (S : List Bl), (∀ x ∈ l, x ∈ kidsW w k) → nodesP y sub l = some (ms, S) → (∀ b ∈ S, B (pidL b) = some b) → NodesT B tel k ms (l.flatMap fun x => x :: if x.2.1 = 2 then fl (nk x.1) else [])
 | [], ms, S, _, h, _ => by
  simp only [nodesP, Option.some.injEq, Prod.mk.injEq] at h
  rw [← h.1]
  exact .nil
 | x :: l, ms, S, hl, h, hB => by
  obtain ⟨m, R, ms', R', h1, h2, rfl, rfl⟩ := nodesP_cons h
  have ih := nodesT_of hw hsub l ms' R' (fun z hz => hl z (List.mem_cons_of_mem _ hz)) h2 (fun b hb => hB b (List.mem_append.2 (.inr hb)))
  have hx := hl x List.mem_cons_self
  obtain ⟨a, ea⟩ := kid_key hw hx
  have ep := item_path hw (kids_mem.1 hx).1 ea
  have hf := icode_facts (hw.ok x (kids_mem.1 hx).1)
  rw [List.flatMap_cons]
  rcases nodeP_some h1 with ⟨k1, hg, rfl, rfl⟩ | ⟨k2, t, hs, rfl⟩ | ⟨k1, k2, rfl, rfl⟩
  ·
   rw [if_neg (by omega)]
   have hft : FileT B (idsN (mkN x x.2.2.2.2.size ((pcsF y x.2.2.2.2).map fun s => idB (dB s)) ⟨#[]⟩)) x.2.2.2.2 := by
    refine ⟨pcsF y x.2.2.2.2, ?_, hg.1.join.symm⟩
    show List.map _ ((pcsF y x.2.2.2.2).map fun s => idB (dB s)) = _
    rw [List.map_map]
    apply List.map_congr_left
    intro s hs
    show B (idL (idB (dB s))) = _
    rw [idL_idB]
    exact hB _ (List.mem_append.2 (.inl (List.mem_map.2 ⟨s, hs, rfl⟩)))
   have := NodesT.file (B := B) (sub := tel) (k := k) (m := mkN x x.2.2.2.2.size ((pcsF y x.2.2.2.2).map fun s => idB (dB s)) ⟨#[]⟩) k1 hft rfl ih
   have e2 : (pthN k (mkN x x.2.2.2.2.size ((pcsF y x.2.2.2.2).map fun s => idB (dB s)) ⟨#[]⟩)) = x.1 := ep
   rw [e2] at this
   exact this
  ·
   rw [if_pos k2]
   have hz := str_nil_of (hf.2.2.2.2.2.1 k2)
   have ht := hsub x t R hx hs (fun b hb => hB b (List.mem_append.2 (.inl hb)))
   have := NodesT.dir (B := B) (sub := tel) (k := k) (m := mkN x 0 [idB (2, t)] ⟨#[]⟩) (i := idB (2, t)) k2 rfl (by
    show tel (k ++ [bT (nmW x)]) _ _
    rw [nmW_of ea, ← ea, idL_idB]
    exact ht) ih
   have e2 : (pthN k (mkN x 0 [idB (2, t)] ⟨#[]⟩)) = x.1 := ep
   rw [e2] at this
   have e3 : (x.1, (mkN x 0 [idB (2, t)] ⟨#[]⟩).2.1, (mkN x 0 [idB (2, t)] ⟨#[]⟩).2.2.1, (mkN x 0 [idB (2, t)] ⟨#[]⟩).2.2.2.1, (mkN x 0 [idB (2, t)] ⟨#[]⟩).2.2.2.2.2.2) = x := by
    show (x.1, x.2.1, x.2.2.1, x.2.2.2.1, (⟨#[]⟩ : ByteArray)) = x
    rw [← hz]
   rw [e3] at this
   exact this
  ·
   rw [if_neg k2]
   have := NodesT.link (B := B) (sub := tel) (k := k) (m := mkN x 0 [] x.2.2.2.2) k1 k2 ih
   have e2 : (pthN k (mkN x 0 [] x.2.2.2.2)) = x.1 := ep
   rw [e2] at this
   exact this
theorem kids_deep {w : List It} (hw : Tre w) {k : KT} (h : 8 ≤ k.length) : kidsW w k = [] := by
 apply List.eq_nil_iff_forall_not_mem.2
 intro x hx
 obtain ⟨a, e⟩ := kid_key hw hx
 have := (nk_names (icode_facts (hw.ok x (kids_mem.1 hx).1)).1).1
 rw [e, List.length_append] at this
 simp at this
 omega
theorem tells_of {y : Wy} {w : List It} (hw : Tre w) (ht : TmOk w) {B : Lk} : ∀ (n : Nat) (k : KT) (t : ByteArray) (S : List Bl), n + k.length = 8 → dirP y w n k = some (t, S) → (∀ b ∈ S, B (pidL b) = some b) → TellsW B n k (pidL (2, t)) (flatW w n k)
 | 0, k, t, S, hn, h, hB => by
  rw [dirP_eq] at h
  obtain ⟨ms, R, h1, h2, rfl⟩ := dirG_some h
  have hk := kids_deep hw (k := k) (by omega)
  have hr := rok_text ht h1 h2
  rw [hk] at h1
  simp only [nodesP, Option.some.injEq, Prod.mk.injEq] at h1
  obtain ⟨rfl, rfl⟩ := h1
  exact ⟨hk, t, hB _ (by simp), hr⟩
 | n + 1, k, t, S, hn, h, hB => by
  rw [dirP_eq] at h
  obtain ⟨ms, R, h1, h2, rfl⟩ := dirG_some h
  refine ⟨t, ms, hB _ (by simp), rok_text ht h1 h2, ?_⟩
  refine nodesT_of hw (sub := subP y w (n + 1)) (tel := TellsW B n) (fl := flatW w n) (fun x t' S' hx hs hB' => ?_) _ ms R (fun x hx => hx) h1 (fun b hb => hB b (List.mem_append.2 (.inl hb)))
  obtain ⟨a, e⟩ := kid_key hw hx
  exact tells_of hw ht n (nk x.1) t' S' (by rw [e, List.length_append]; simp; omega) hs hB'
theorem Planted.tells {y : Wy} {w : List It} {out : List Bl} {id : List Nat} (h : Planted y w out id) (ht : TmOk w) {B : Lk} (hB : ∀ b ∈ out, B (pidL b) = some b) : TellsW B 8 [] id w := by
 obtain ⟨_, h1, t, S, h2, h3, rfl⟩ := h
 obtain ⟨hw, _⟩ := tre_of h1
 have hm := (addF_some h3).2.1
 have := tells_of hw ht (B := B) 8 [] t S rfl h2 (fun b hb => hB b ((hm b).2 (.inr hb)))
 rwa [flat_root hw] at this
end Go.Proofs.YtbfoonfbhebhfaaGreatDoor
namespace Go.Proofs.YtbfoonfbhebhfaaGreatDoor
open Go.RowKit Plain Go.Maps Go.ChangeMaps
set_option linter.unusedVariables false
set_option linter.unusedSimpArgs false
def cnM (m : MN) : MN := (m.1, m.2.1, m.2.2.1, m.2.2.2.1, m.2.2.2.2.1, (none, 0, m.2.2.2.2.2.1.2.2), m.2.2.2.2.2.2)
theorem ndOf_cns (ms : List MN) : (ms.map cnM).map ndOf = ms.map ndOf := by rw [List.map_map]; rfl
theorem wok_cn {ms : List MN} : WOk (ms.map cnM) ↔ WOk ms := by
 constructor
 ·
  rintro ⟨h1, h2⟩
  rw [ndOf_cns] at h2
  exact ⟨h1.congr (ndOf_cns ms), h2⟩
 ·
  rintro ⟨h1, h2⟩
  refine ⟨h1.congr (ndOf_cns ms).symm, ?_⟩
  rw [ndOf_cns]
  exact h2
theorem textF_cn {ms : List MN} {t : ByteArray} (h1 : WOk ms) (h2 : Tx (ms.map ndOf) (strN t)) (h3 : t.size ≤ 4096) : textF (ms.map cnM) = some t := textF_of (wok_cn.2 h1) (by rw [ndOf_cns]; exact h2) h3
theorem textF_cnN {ms : List MN} (h : ¬ WOk ms) : textF (ms.map cnM) = none := textF_none (fun g => h (wok_cn.1 g))
noncomputable def stN (y : Wy) (sub : Sub) (l : List It) (st : Option (List Bl)) : Option (List Bl) := match nodesP y sub l with
 | none => none
 | some (_, S) => addF st S
noncomputable def stX (y : Wy) (sub : Sub) (x : It) (st : Option (List Bl)) : Option (List Bl) := match nodeP y sub x with
 | none => none
 | some (_, S) => addF st S
theorem stN_snoc (y : Wy) (sub : Sub) (l : List It) (x : It) (st : Option (List Bl)) : stN y sub (l ++ [x]) st = stX y sub x (stN y sub l st) := by
 unfold stN stX
 rw [nodesP_snoc]
 cases nodesP y sub l with
 | none =>
  cases nodeP y sub x with
  | none => rfl
  | some q => exact (addF_none _).symm
 | some p =>
  obtain ⟨a, S⟩ := p
  cases nodeP y sub x with
  | none => rfl
  | some q =>
   obtain ⟨m, R⟩ := q
   exact addF_append _ _ _
noncomputable def dirSt (y : Wy) (w : List It) (n : Nat) (k : KT) (st : Option (List Bl)) : Option (List Bl) := match dirP y w n k with
 | none => none
 | some (_, S) => addF st S
theorem dirSt_none {y : Wy} {w : List It} {n : Nat} {k : KT} {st : Option (List Bl)} (h : stN y (subP y w n) (kidsW w k) st = none) : dirSt y w n k st = none := by
 unfold dirSt
 rw [dirP_eq]
 unfold dirG
 unfold stN at h
 cases hn : nodesP y (subP y w n) (kidsW w k) with
 | none => rfl
 | some p =>
  obtain ⟨l, S⟩ := p
  rw [hn] at h
  simp only at h ⊢
  cases ht : textF l with
  | none => rfl
  | some t =>
   simp only [Option.map_some]
   rw [addF_append, h]
   rfl
theorem dirSt_text {y : Wy} {w : List It} {n : Nat} {k : KT} {st : Option (List Bl)} {ms : List MN} {S : List Bl} {t : ByteArray} (h : nodesP y (subP y w n) (kidsW w k) = some (ms, S)) (ht : textF ms = some t) : dirSt y w n k st = putF (stN y (subP y w n) (kidsW w k) st) (2, t) ∧ dirP y w n k = some (t, S ++ [((2 : Int), t)]) := by
 have hd : dirP y w n k = some (t, S ++ [((2 : Int), t)]) := by
  rw [dirP_eq]
  unfold dirG
  rw [h]
  simp only [ht, Option.map_some]
 refine ⟨?_, hd⟩
 unfold dirSt stN
 rw [hd, h]
 exact addF_append _ _ _
theorem dirSt_bad {y : Wy} {w : List It} {n : Nat} {k : KT} {st : Option (List Bl)} {ms : List MN} {S : List Bl} (h : nodesP y (subP y w n) (kidsW w k) = some (ms, S)) (ht : textF ms = none) : dirSt y w n k st = none := by
 have hd : dirP y w n k = none := by
  rw [dirP_eq]
  unfold dirG
  rw [h]
  simp only [ht, Option.map_none]
 unfold dirSt
 rw [hd]
def flS (w : List It) : Nat → KT → List It
 | 0 => fun _ => []
 | n + 1 => flatW w n
def flL (w : List It) (n : Nat) (l : List It) : Nat := (l.flatMap fun x => x :: if x.2.1 = 2 then flS w n (nk x.1) else []).length
theorem flL_snoc (w : List It) (n : Nat) (l : List It) (x : It) : flL w n (l ++ [x]) = flL w n l + (1 + (if x.2.1 = 2 then flS w n (nk x.1) else []).length) := by
 unfold flL
 rw [List.flatMap_append, List.length_append, List.flatMap_singleton, List.length_cons]
 omega
theorem flL_take (w : List It) (n : Nat) (l : List It) (i : Nat) : flL w n (l.take i) ≤ flL w n l := by
 unfold flL
 conv => rhs; rw [← List.take_append_drop i l, List.flatMap_append, List.length_append]
 omega
theorem flat_eq {w : List It} (hw : Tre w) {n : Nat} {k : KT} (h : n + k.length = 8) : (flatW w n k).length = flL w n (kidsW w k) := by
 cases n with
 | zero =>
  have hk := kids_deep hw (k := k) (by omega)
  show (kidsW w k).length = _
  rw [hk]; rfl
 | succ n => rfl
theorem nodeP_file {y : Wy} {sub : Sub} {x : It} (h : x.2.1 = 1) (hg : PcsGood y x.2.2.2.2) : nodeP y sub x = some (mkN x x.2.2.2.2.size ((pcsF y x.2.2.2.2).map fun s => idB (dB s)) ⟨#[]⟩, (pcsF y x.2.2.2.2).map dB) := by
 unfold nodeP
 rw [if_pos h, if_neg (fun h => h hg)]
theorem nodeP_dir {y : Wy} {sub : Sub} {x : It} (h : x.2.1 = 2) : nodeP y sub x = (sub (nk x.1)).map fun r => (mkN x 0 [idB (2, r.1)] ⟨#[]⟩, r.2) := by
 unfold nodeP
 rw [if_neg (by omega), if_pos h]
theorem nodeP_link {y : Wy} {sub : Sub} {x : It} (h1 : x.2.1 ≠ 1) (h2 : x.2.1 ≠ 2) : nodeP y sub x = some (mkN x 0 [] x.2.2.2.2, []) := by
 unfold nodeP
 rw [if_neg h1, if_neg h2]
theorem name_cut {w : List It} (hw : Tre w) {k : KT} {x : It} (hx : x ∈ kidsW w k) : x.1.extract ((pthB k).size + 1) x.1.size = nmW x ∧ (pthB k).size + 1 ≤ x.1.size := by
 obtain ⟨a, ea⟩ := kid_key hw hx
 obtain ⟨f0, f1, _⟩ := icode_facts (hw.ok x (kids_mem.1 hx).1)
 have hp := nk_path f0 f1
 rw [ea, pthT_snoc] at hp
 have hz : (pthB k).size = (pthT k).length := by rw [← bT_length, bT_pthB]
 have hxz : x.1.size = (pthT k).length + 1 + a.length := by rw [← bT_length, hp]; simp; omega
 refine ⟨strN_inj ?_, by omega⟩
 have e1 : strN (x.1.extract ((pthB k).size + 1) x.1.size) = (strN x.1).drop ((pthB k).size + 1) := strN_drop _ _
 rw [e1, hz]
 show ((bT x.1).map UInt8.toNat).drop _ = (bT (nmW x)).map UInt8.toNat
 rw [nmW_of ea, hp, ← List.map_drop]
 congr 1
 rw [← List.drop_drop, List.drop_left]
 rfl
def DRel (base P K M : Nat) (y : Wy) (wl : List It) (w : World) (n : Nat) (k : KT) (c : Nat) (st : Option (List Bl)) (i : Nat) (ms : List MN) (oa : Option Addr) (oc : Nat) (wr : World) : Prop :=
 PS base P K M y wl (c + 300 * flL wl n ((kidsW wl k).take i)) (stN y (subP y wl n) ((kidsW wl k).take i) st) wr ∧ FrP base M w wr ∧ wr.heap[w.heap.size]? = some (.cells z8A 30 (0, 0)) ∧
 wr.ownsRow w.heap.size 120 7 (.slice oa ms.length oc) ms.length (ms.flatMap mnC) ∧ (∀ m ∈ ms, PO wr w.heap.size m ∧ MZ m ∧ -9223372036854775808 ≤ m.2.2.2.1 ∧ m.2.2.2.1 ≤ 9223372036854775807) ∧ ms.length = i ∧
 ∀ out, stN y (subP y wl n) ((kidsW wl k).take i) st = some out → ∃ S, nodesP y (subP y wl n) ((kidsW wl k).take i) = some (ms.map cnM, S)
def DirEnd (base P K M : Nat) (y : Wy) (wl : List It) (n : Nat) (k : KT) (c : Nat) (st : Option (List Bl)) (w0 : World) (e : Ending) (w : World) : Prop := ∃ id : List Nat, id.length = 8 ∧ (∀ x ∈ id, x < 256) ∧ e = .returned (.agg (bC id)) ∧
 PS base P K M y wl (c + 300 * flL wl n (kidsW wl k) + 1) (dirSt y wl n k st) w ∧ FrP base M w0 w ∧ ∀ out, dirSt y wl n k st = some out → ∃ t S, dirP y wl n k = some (t, S) ∧ id = pidL (2, t)
end Go.Proofs.YtbfoonfbhebhfaaGreatDoor
namespace Go.Proofs.YtbfoonfbhebhfaaGreatDoor
open Go.RowKit Plain Go.Maps Go.ChangeMaps
set_option linter.unusedVariables false
set_option linter.unusedSimpArgs false
def StT (t : TypeId) : Prop := t = 99 ∨ t = 37 ∨ t = 40
theorem PSX.keep {base P K M : Nat} {y : Wy} {wl : List It} {es : List (List Nat × Bl)} {out : List Bl} {oa : Option Addr} {oc : Nat} {e : Int} {w w' : World} (h : PSX base P K M y wl es out oa oc e w) (h1 : ∀ (k : Nat) (cs : Array Value) (t : TypeId) (fr : Nat × Nat), w.heap[k]? = some (Obj.cells cs t fr) → StT t → w'.heap[k]? = w.heap[k]?) (h2 : ∀ (k : Nat) (es : Array MapEntry) (cl : Nat), w.heap[k]? = some (Obj.map es cl) → w'.heap[k]? = w.heap[k]?) : PSX base P K M y wl es out oa oc e w' := by
 obtain ⟨g1, g2, g3, ⟨n, D, a, c, k1, k2, k3, k4, k5⟩, g5⟩ := h
 obtain ⟨es', cl', hK⟩ := hm_isMap k1
 exact ⟨(h1 P _ _ _ g1 (.inl rfl)).trans g1, own_of_block g2 fun g cs' _ hg => h1 g _ _ _ hg (.inr (.inl rfl)), (h2 M _ _ g3).trans g3, ⟨n, D, a, c, k1.of_block (h2 K _ _ hK), k2, k3, fun q => ⟨(k4 q).1, own_of_block (k4 q).2 fun g cs' _ hg => h1 g _ _ _ hg (.inr (.inr rfl))⟩, k5⟩, g5⟩
theorem PS.keep {base P K M : Nat} {y : Wy} {wl : List It} {c : Nat} {st : Option (List Bl)} {w w' : World} (h : PS base P K M y wl c st w) (h1 : ∀ (k : Nat) (cs : Array Value) (t : TypeId) (fr : Nat × Nat), w.heap[k]? = some (Obj.cells cs t fr) → StT t → w'.heap[k]? = w.heap[k]?) (h2 : ∀ (k : Nat) (es : Array MapEntry) (cl : Nat), w.heap[k]? = some (Obj.map es cl) → w'.heap[k]? = w.heap[k]?) : PS base P K M y wl c st w' := by
 obtain ⟨out, oa, oc, e, g, r⟩ := h
 exact ⟨out, oa, oc, e, g.keep h1 h2, r⟩
theorem PS.set {base P K M : Nat} {y : Wy} {wl : List It} {c : Nat} {st : Option (List Bl)} {w : World} (h : PS base P K M y wl c st w) {B : Nat} {cs : Array Value} {T : TypeId} (hB : w.heap[B]? = some (.cells cs T (0, 0))) (hT : ¬ StT T) (i : Nat) (v : Value) : PS base P K M y wl c st (w.setCell ⟨B, i, none⟩ v) :=
 h.keep (fun k cs' t fr hk ht => Below.heap_setCell _ _ _ _ (fun e => by
  have e : k = B := e
  subst e
  rw [hB] at hk
  injection hk with hk
  injection hk with _ hk
  exact hT (hk ▸ ht))) (fun k es cl hk => Below.heap_setCell _ _ _ _ (fun e => by
  have e : k = B := e
  subst e
  exact not_map_cells hB hk))
theorem PS.setCells {base P K M : Nat} {y : Wy} {wl : List It} {c : Nat} {st : Option (List Bl)} {w : World} (h : PS base P K M y wl c st w) {B : Nat} {cs : Array Value} {T : TypeId} (hB : w.heap[B]? = some (.cells cs T (0, 0))) (hT : ¬ StT T) (vs : List Value) : PS base P K M y wl c st (w.setCells B 0 vs) :=
 h.keep (fun k cs' t fr hk ht => heap_setCells_other _ _ (fun e => by
  subst e
  rw [hB] at hk
  injection hk with hk
  injection hk with _ hk
  exact hT (hk ▸ ht)) _ _ _) (fun k es cl hk => heap_setCells_other _ _ (fun e => by
  subst e
  exact not_map_cells hB hk) _ _ _)
theorem PS.grown {base P K M : Nat} {y : Wy} {wl : List It} {c : Nat} {st : Option (List Bl)} {w w' : World} (h : PS base P K M y wl c st w) {b' : Nat} {T : TypeId} {k n : Nat} {v : Value} {xs : List Value} (ho : w.ownsRow b' T k v n xs) (hT : ¬ StT T) (hg : w.grownBy w' v.ownBlock) : PS base P K M y wl c st w' :=
 h.keep (fun j cs' t fr hk ht => hg.block j (lt_of_block hk) (fun e => by
  obtain ⟨_, _, cs, hc⟩ := own_typ ho e.symm
  rw [hc] at hk
  injection hk with hk
  injection hk with _ hk
  exact hT (hk ▸ ht))) (fun j es cl hk => hg.block j (lt_of_blockW hk) (fun e => by
  obtain ⟨_, _, cs, hc⟩ := own_typ ho e.symm
  exact not_map_cells hc hk))
theorem FrP.freshSet {base M : Nat} {w u : World} (h : FrP base M w u) {B : Nat} (hB : w.heap.size ≤ B) (hb : base ≤ w.heap.size) (i : Nat) (v : Value) : FrP base M w (u.setCell ⟨B, i, none⟩ v) := by
 have hne : ∀ {k : Nat}, k < w.heap.size → k ≠ B := fun hk => by omega
 exact ⟨h.1.setCell (p := ⟨B, i, none⟩) (Nat.le_trans hb hB) v, fun k cs t fr h1 h2 h3 => (Below.heap_setCell _ _ _ _ (hne (lt_of_block h1))).trans (h.2.1 k cs t fr h1 h2 h3), fun k es cl h1 h2 => (Below.heap_setCell _ _ _ _ (hne (lt_of_blockW h1))).trans (h.2.2 k es cl h1 h2)⟩
theorem FrP.grown {base M : Nat} {w u u' : World} (h : FrP base M w u) (hb : base ≤ w.heap.size) {T : TypeId} {k n : Nat} {v : Value} {xs : List Value} (ho : u.ownsRow w.heap.size T k v n xs) (hg : u.grownBy u' v.ownBlock) : FrP base M w u' := by
 have hs := h.1.size
 have key : ∀ j, j < w.heap.size → u'.heap[j]? = u.heap[j]? := fun j hj => hg.block j (by omega) (fun e => by have := (own_typ ho e.symm).1; omega)
 exact ⟨h.1.grown hg (by omega) (fun j hj => Nat.le_trans hb (own_typ ho hj).1), fun j cs t fr h1 h2 h3 => (key j (lt_of_block h1)).trans (h.2.1 j cs t fr h1 h2 h3), fun j es cl h1 h2 => (key j (lt_of_blockW h1)).trans (h.2.2 j es cl h1 h2)⟩
theorem FrP.step {base M : Nat} {w u u' : World} (h : FrP base M w u) (hb : base ≤ w.heap.size) (hu : Below u.heap.size u u') : FrP base M w u' := h.trans (.of_below hu (by have := h.1.size; omega))
theorem FrP.row {base M : Nat} {w u : World} (h : FrP base M w u) {B : Nat} {cs : Array Value} {T : TypeId} (hB : w.heap[B]? = some (.cells cs T (0, 0))) (h1 : T ≠ 99) (h2 : T ≠ 37) : u.heap[B]? = some (.cells cs T (0, 0)) := h.2.1 B cs T _ hB h1 h2
theorem own_gr {w w' : World} {base b2 : Nat} {t t' : TypeId} {k k' : Nat} {v v' : Value} {n n' : Nat} {xs xs' : List Value} (h : w.ownsRow base t k v n xs) (h2 : w.ownsRow b2 t' k' v' n' xs') (ht : t ≠ t') (hg : w.grownBy w' v'.ownBlock) : w'.ownsRow base t k v n xs :=
 own_of_block h fun g cs _ hc => hg.block g (lt_of_block hc) (fun e => by
  obtain ⟨_, _, cs', hc'⟩ := own_typ h2 e.symm
  rw [hc] at hc'
  injection hc' with hc'
  injection hc' with _ hc'
  exact ht hc')
theorem row_gr {w w' : World} {b2 : Nat} {t t' : TypeId} {k' : Nat} {v' : Value} {n' : Nat} {xs' : List Value} {B : Nat} {cs : Array Value} (h : w.heap[B]? = some (.cells cs t (0, 0))) (h2 : w.ownsRow b2 t' k' v' n' xs') (ht : t ≠ t') (hg : w.grownBy w' v'.ownBlock) : w'.heap[B]? = some (.cells cs t (0, 0)) :=
 (hg.block B (lt_of_block h) (fun e => by
  obtain ⟨_, _, cs', hc'⟩ := own_typ h2 e.symm
  rw [h] at hc'
  injection hc' with hc'
  injection hc' with _ hc'
  exact ht hc')).trans h
theorem own_setW {w : World} {base : Nat} {t T : TypeId} {k : Nat} {v : Value} {n : Nat} {xs : List Value} (h : w.ownsRow base t k v n xs) {B : Nat} {cs : Array Value} (hB : w.heap[B]? = some (.cells cs T (0, 0))) (ht : t ≠ T) (i : Nat) (u : Value) : (w.setCell ⟨B, i, none⟩ u).ownsRow base t k v n xs :=
 own_of_block h fun g cs' _ hc => Below.heap_setCell _ _ _ _ (fun e => by
  have e : g = B := e
  subst e
  rw [hB] at hc
  injection hc with hc
  injection hc with _ hc
  exact ht hc.symm)
theorem PS.kids {base P K M : Nat} {y : Wy} {wl : List It} {c : Nat} {st : Option (List Bl)} {w : World} (h : PS base P K M y wl c st w) (hw : Tre wl) {k : KT} (hk : ∀ a ∈ k, 47 ∉ a) (hz : (pthB k).size ≤ 1048576) :
  ∃ (a : Option Addr) (kc : Nat), (∀ u : World, u.heap[K]? = w.heap[K]? → (Instr.lookup 96 (.map (some K)) (.string (pthB k)) false).run Tryz.prog u = .ok (.slice a (kidsW wl k).length kc) u) ∧ w.ownsRow base 40 5 (.slice a (kidsW wl k).length kc) (kidsW wl k).length ((kidsW wl k).flatMap iC) ∧ w.cell? ⟨P, 4, none⟩ = some (.map (some K)) ∧ P < w.heap.size ∧ K < w.heap.size := by
 obtain ⟨out, oa, oc, e, g, _⟩ := h
 obtain ⟨n, D, a, cc, k1, k2, k3, k4, k5⟩ := g.2.2.2.1
 have e1 : kidsQ wl (pthB k) = kidsW wl k := kidsQ_eq hw.ok hk
 have h4 := k4 (pthB k)
 rw [e1] at h4
 exact ⟨a (pthB k), cc (pthB k), fun u hu => hm_look (k1.of_block hu) _ (by unfold maxLen; omega) h4.1, h4.2, g.1.cells.2.2.2.2.1, lt_of_block g.1, k1.lt⟩
noncomputable def subSt (y : Wy) (w : List It) (n : Nat) (k : KT) (st : Option (List Bl)) : Option (List Bl) := match subP y w n k with
 | none => none
 | some (_, S) => addF st S
def SubEnd (base P K M : Nat) (y : Wy) (wl : List It) (n : Nat) (k : KT) (c : Nat) (st : Option (List Bl)) (w0 : World) (e : Ending) (w : World) : Prop := ∃ id : List Nat, id.length = 8 ∧ (∀ x ∈ id, x < 256) ∧ e = .returned (.agg (bC id)) ∧
 PS base P K M y wl (c + 300 * (flS wl n k).length + 1) (subSt y wl n k st) w ∧ FrP base M w0 w ∧ ∀ out, subSt y wl n k st = some out → ∃ t S, subP y wl n k = some (t, S) ∧ id = pidL (2, t)
theorem stX_dir {y : Wy} {w : List It} {n : Nat} {x : It} (h : x.2.1 = 2) (st : Option (List Bl)) : stX y (subP y w n) x st = subSt y w n (nk x.1) st := by
 unfold stX subSt
 rw [nodeP_dir h]
 cases subP y w n (nk x.1) with
 | none => rfl
 | some r => rfl
theorem stX_file {y : Wy} {sub : Sub} {x : It} (h : x.2.1 = 1) (hg : PcsGood y x.2.2.2.2) (st : Option (List Bl)) : stX y sub x st = addF st ((pcsF y x.2.2.2.2).map dB) := by
 unfold stX
 rw [nodeP_file h hg]
theorem stX_link {y : Wy} {sub : Sub} {x : It} (h1 : x.2.1 ≠ 1) (h2 : x.2.1 ≠ 2) (st : Option (List Bl)) : stX y sub x st = st := by
 unfold stX
 rw [nodeP_link h1 h2]
 rfl
theorem DRel.next {y : Wy} {wl : List It} {n : Nat} {k : KT} {st : Option (List Bl)} {i : Nat} {ms : List MN} {x : It} {m : MN} (hx : (kidsW wl k).take (i + 1) = (kidsW wl k).take i ++ [x]) (hms : ∀ out, stN y (subP y wl n) ((kidsW wl k).take i) st = some out → ∃ S, nodesP y (subP y wl n) ((kidsW wl k).take i) = some (ms.map cnM, S))
  (hm : ∀ out, stX y (subP y wl n) x (stN y (subP y wl n) ((kidsW wl k).take i) st) = some out → ∃ R, nodeP y (subP y wl n) x = some (cnM m, R)) : ∀ out, stN y (subP y wl n) ((kidsW wl k).take (i + 1)) st = some out → ∃ S, nodesP y (subP y wl n) ((kidsW wl k).take (i + 1)) = some ((ms ++ [m]).map cnM, S) := by
 intro out h
 rw [hx, stN_snoc] at h
 obtain ⟨R, h2⟩ := hm out h
 cases hs : stN y (subP y wl n) ((kidsW wl k).take i) st with
 | none =>
  rw [hs] at h
  unfold stX at h
  rw [h2] at h
  simp only [addF_none] at h
  cases h
 | some o =>
  obtain ⟨S, h3⟩ := hms o hs
  rw [hx, nodesP_snoc, h3]
  simp only [h2, List.map_append, List.map_cons, List.map_nil]
  exact ⟨_, rfl⟩
theorem PS.mk1 {base P K M : Nat} {y : Wy} {wl : List It} {out : List Bl} {oa : Option Addr} {oc : Nat} {c : Nat} {w : World} (h : PSX base P K M y wl (esOf out) out oa oc 0 w) (hl : out.length ≤ c) (hi : IdsOk out) : PS base P K M y wl c (some out) w := ⟨out, oa, oc, 0, h, hl, hi, .inl ⟨rfl, rfl⟩⟩
end Go.Proofs.YtbfoonfbhebhfaaGreatDoor
namespace Go.Proofs.YtbfoonfbhebhfaaGreatDoor
open Go Go.RowKit
section
variable {P : Program} {ops : Array Oper} {Q : Exit → Act → World → Prop} {md : Region.Mode} {S : World → Prop}
def YieldsQ (P : Program) (ops : Array Oper) (S : World → Prop) (o : Oper) (v : Value) (a : Act) : Prop :=
 (Region.wanted o (yielded ops a.tmps) = true ∧ ((∀ w, S w → (execOp a.eval o).run P w = .ok (.value v) w) ∨ ∃ f args, (∀ w, S w → (execOp a.eval o).run P w = .ok (.enter f args) w) ∧ ∀ w, S w → Calls P f args w fun e w' => e = .returned v ∧ w = w')) ∨
 (Region.wanted o (yielded ops a.tmps) = false ∧ v = undef)
theorem YieldsQ.wpOp {i : Nat} {o : Oper} {v : Value} {a : Act} (hi : ops[i]? = some o) (hy : YieldsQ P ops S o v a) {K : Act → World → Prop} {w : World} (hS : S w) (h : K (a.put o.dst v) w) : wpOp P ops Q i K a w := by
 unfold Go.wpOp
 simp only [hi]
 rcases hy with ⟨hw, hv | ⟨f, args, he, hc⟩⟩ | ⟨hw, rfl⟩
 ·
  simp only [hw, if_true, Oper.wp, hv w hS, Oper.upon]; exact .inl h
 ·
  simp only [hw, if_true]
  exact .inl (wp_call_run (he w hS) (hc w hS) fun e w' ⟨h1, h2⟩ => ⟨v, h1, by rw [← h2]; exact h⟩)
 ·
  simp only [hw, Bool.false_eq_true, if_false]; exact h
theorem YieldsQ.of_same {o : Oper} {v : Value} {a a' : Act} (hy : YieldsQ P ops S o v a) (he : execOp a'.eval o = execOp a.eval o)
  (hw : Region.wanted o (yielded ops a'.tmps) = Region.wanted o (yielded ops a.tmps)) : YieldsQ P ops S o v a' := by
 unfold YieldsQ at *
 rw [he, hw]
 exact hy
theorem wpOp_putQ {j : Nat} {oi oj : Oper} {v : Value} (hj : ops[j]? = some oj) (hap : oi.apart ops oj = true)
  (hsi : ∀ cs b, oi.op ≠ .select cs b) (hsj : ∀ cs b, oj.op ≠ .select cs b)
  (hQ : ∀ c a w, Q (.panic c) (a.put oi.dst v) w → Q (.panic c) a w) {K : Act → World → Prop} {a : Act} {w : World}
  (hy : YieldsQ P ops S oi v a) (h : wpOp P ops Q j K (a.put oi.dst v) w) :
  wpOp P ops Q j (fun a' w' => YieldsQ P ops S oi v a' ∧ K (a'.put oi.dst v) w') a w := by
 obtain ⟨h1, h2, h3⟩ := Oper.apart_spec hap
 have keep : ∀ (a : Act), YieldsQ P ops S oi v a → ∀ u, YieldsQ P ops S oi v (a.put oj.dst u) := fun a hy u =>
  hy.of_same (execOp_put oi hsi a oj.dst u h3) (wanted_put oi a oj.dst u h3)
 have keepD : ∀ d, YieldsQ P ops S oi v { a with defers := d :: a.defers } := fun d => hy.of_same rfl rfl
 unfold wpOp at *
 simp only [hj] at *
 rw [wanted_put oj a oi.dst v h1] at h
 split
 ·
  rename_i hw
  simp only [hw, if_true] at h
  rcases h with h | ⟨hasks, hlets⟩
  case inr => exact .inr ⟨by unfold Oper.asks at *; rw [execOp_put oj hsj a oi.dst v h1] at hasks; exact hasks, hlets⟩
  refine .inl ?_
  unfold Oper.wp at *
  rw [execOp_put oj hsj a oi.dst v h1] at h
  generalize (execOp a.eval oj).run P w = r at *
  cases r with
  | ok n w' =>
   cases n <;> simp only [Oper.upon] at h ⊢
   case value u => exact ⟨keep a hy u, by rw [← Act.put_comm a v u h2]; exact h⟩
   case skip => exact ⟨keep a hy _, by rw [← Act.put_comm a v undef h2]; exact h⟩
   case defer d =>
    refine ⟨keep _ (keepD d) _, ?_⟩
    rw [← Act.put_comm _ v undef h2, ← Act.put_defers]
    exact h
   case enter f args =>
    refine Calls.mono h fun e w'' he => ?_
    cases e with
    | returned u => exact ⟨keep a hy u, by rw [← Act.put_comm a v u h2]; exact he⟩
    | panicked c => exact hQ _ _ _ he
    | outgrown => exact he
   case row row args => exact Rows.mono h fun u w'' he => ⟨keep a hy u, by rw [← Act.put_comm a v u h2]; exact he⟩
  | halt x w' =>
   cases x <;> simp only [Oper.upon] at h ⊢
   case panic u => exact hQ _ _ _ h
 ·
  rename_i hw
  simp only [hw] at h
  exact ⟨keep a hy _, by rw [← Act.put_comm a v undef h2]; exact h⟩
def wpAnyE (P : Program) (md : Region.Mode) (ops : Array Oper) (Q : Exit → Act → World → Prop) (S : World → Prop) (l : Nat) : Nat → Array Bool → Act → World → Prop
 | 0, listed, a, w => Region.ready md ops listed = [] ∧ Q .normal a w
 | fuel + 1, listed, a, w =>
  (Region.ready md ops listed = [] → Q .normal a w) ∧
  ∀ i ∈ Region.ready md ops listed, wpOp P ops Q i (fun a' w' => (i ≠ l → S w') ∧ wpAnyE P md ops Q S l fuel (listed.setIfInBounds i true) a' w') a w
theorem wpAny_of_E {l : Nat} : ∀ (fuel : Nat) (listed : Array Bool) (a : Act) (w : World), wpAnyE P md ops Q S l fuel listed a w → wpAny P md ops Q fuel listed a w
 | 0, _, _, _, h => h
 | fuel + 1, _, _, _, h => ⟨h.1, fun i hi => wpOp_mono (fun a' w' h' => wpAny_of_E fuel _ a' w' h'.2) (h.2 i hi)⟩
def waitsDirect (md : Region.Mode) (ops : Array Oper) (l i : Nat) : Bool := match ops[l]? with
 | none => true
 | some o => o.after.any fun e => Region.binds md e && e.on == i
theorem not_ready_of {l i : Nat} {listed : Array Bool} (h : waitsDirect md ops l i = true) (hi : i ∈ Region.ready md ops listed) : l ∉ Region.ready md ops listed := fun hl => by
 obtain ⟨_, o, ho, hall⟩ := mem_ready.1 hl
 unfold waitsDirect at h
 rw [ho] at h
 obtain ⟨e, he, hb⟩ := Array.any_eq_true'.1 h
 simp only [Bool.and_eq_true, beq_iff_eq] at hb
 have h1 := hall e he hb.1
 have h0 := (mem_ready.1 hi).1
 rw [hb.2] at h1
 rcases Nat.lt_or_ge i listed.size with h' | h'
 ·
  simp [h'] at h0 h1; rw [h0] at h1; cases h1
 ·
  simp [Array.getElem?_eq_none h'] at h1
theorem wpAnyE_first {l i : Nat} {oi : Oper} {v : Value} (hi : ops[i]? = some oi) (hsel : ∀ (j : Nat) (o : Oper) cs b, ops[j]? = some o → o.op ≠ .select cs b) (hl : waitsDirect md ops l i = true) (hil : i ≠ l)
  (hQ : ∀ c a w, Q (.panic c) (a.put oi.dst v) w → Q (.panic c) a w) :
  ∀ (fuel : Nat) (listed : Array Bool) (a : Act) (w : World),
   (∀ j oj, ops[j]? = some oj → j ≠ i → listed.getD j true = false → (∀ e ∈ oj.after, Region.binds md e = true → e.on ≠ i) → oi.apart ops oj = true) →
   i ∈ Region.ready md ops listed → YieldsQ P ops S oi v a → S w →
   wpAnyE P md ops Q S l fuel (listed.setIfInBounds i true) (a.put oi.dst v) w → wpAnyE P md ops Q S l (fuel + 1) listed a w := by
 intro fuel
 induction fuel with
 | zero =>
  intro listed a w _ hr hy hS H
  refine ⟨fun h => (by rw [h] at hr; cases hr), fun j hj => ?_⟩
  by_cases hji : j = i
  ·
   subst hji; exact hy.wpOp hi hS ⟨fun _ => hS, H⟩
  ·
   have := ready_mono hj hji
   rw [H.1] at this
   cases this
 | succ fuel ih =>
  intro listed a w hfree hr hy hS H
  refine ⟨fun h => (by rw [h] at hr; cases hr), fun j hj => ?_⟩
  by_cases hji : j = i
  ·
   subst hji; exact hy.wpOp hi hS ⟨fun _ => hS, H⟩
  ·
   have hjl : j ≠ l := fun e => by subst e; exact not_ready_of hl hr hj
   have h1 := H.2 j (ready_mono hj hji)
   obtain ⟨hjun, oj, hoj, hall⟩ := mem_ready.1 hj
   have hnot : ∀ e ∈ oj.after, Region.binds md e = true → e.on ≠ i := fun e he hb heq => by
    have h1 := hall e he hb
    have h0 := (mem_ready.1 hr).1
    rw [heq] at h1
    rcases Nat.lt_or_ge i listed.size with h' | h'
    ·
     simp [h'] at h0 h1; rw [h0] at h1; cases h1
    ·
     simp [Array.getElem?_eq_none h'] at h1
   have h2 := wpOp_putQ hoj (hfree j oj hoj hji hjun hnot) (fun cs b => hsel i oi cs b hi) (fun cs b => hsel j oj cs b hoj) hQ hy h1
   have hfree' : ∀ k ok, ops[k]? = some ok → k ≠ i → (listed.setIfInBounds j true).getD k true = false →
     (∀ e ∈ ok.after, Region.binds md e = true → e.on ≠ i) → oi.apart ops ok = true := fun k ok hk hki hun hno => by
    refine hfree k ok hk hki ?_ hno
    by_cases hjk : j = k
    ·
     subst hjk; exact hjun
    ·
     rw [getD_set_ne true hjk] at hun; exact hun
   refine wpOp_mono (fun a' w' h3 => ⟨fun _ => h3.2.1 hjl, ih (listed.setIfInBounds j true) a' w' hfree' (ready_mono hr (Ne.symm hji)) h3.1 (h3.2.1 hjl) ?_⟩) h2
   rw [Array.setIfInBounds_comm _ _ hji]
   exact h3.2.2
theorem takeE_val {l0 fuel : Nat} {listed : Array Bool} {l : List Value} {df : List Deferred} {w : World} (i : Nat) {oi : Oper} {d : Nat} (v : Value)
  (hi : ops[i]? = some oi) (hs : Region.noSelect ops = true) (hf : Region.free md ops listed i = true) (hr : (Region.ready md ops listed).contains i = true) (hl : waitsDirect md ops l0 i = true) (hil : (i != l0) = true)
  (hQ : ∀ c a w v, Q (.panic c) (a.put oi.dst v) w → Q (.panic c) a w)
  (hw : Region.wanted oi (yielded ops l.toArray) = true) (hd : oi.dst = some d) (hv : ∀ w, S w → (execOp (Act.mk l.toArray df).eval oi).run P w = .ok (.value v) w) (hS : S w)
  (h : wpAnyE P md ops Q S l0 fuel (listed.setIfInBounds i true) ⟨(l.set d v).toArray, df⟩ w) : wpAnyE P md ops Q S l0 (fuel + 1) listed ⟨l.toArray, df⟩ w := by
 refine wpAnyE_first hi (Region.noSelect_spec hs) hl (by simpa using hil) (fun c a w => hQ c a w _) fuel listed _ w (Region.free_spec hi hf) (by simpa using hr) (Or.inl ⟨hw, Or.inl hv⟩) hS ?_
 simpa only [hd, Act.put, List.setIfInBounds_toArray] using h
theorem takeE_call {l0 fuel : Nat} {listed : Array Bool} {l : List Value} {df : List Deferred} {w : World} (i : Nat) {oi : Oper} {d : Nat} (v : Value) (f : FuncId) (args : Array Value)
  (hi : ops[i]? = some oi) (hs : Region.noSelect ops = true) (hf : Region.free md ops listed i = true) (hr : (Region.ready md ops listed).contains i = true) (hl : waitsDirect md ops l0 i = true) (hil : (i != l0) = true)
  (hQ : ∀ c a w v, Q (.panic c) (a.put oi.dst v) w → Q (.panic c) a w)
  (hw : Region.wanted oi (yielded ops l.toArray) = true) (hd : oi.dst = some d) (hv : ∀ w, S w → (execOp (Act.mk l.toArray df).eval oi).run P w = .ok (.enter f args) w) (hc : ∀ w, S w → Calls P f args w fun e w' => e = .returned v ∧ w = w') (hS : S w)
  (h : wpAnyE P md ops Q S l0 fuel (listed.setIfInBounds i true) ⟨(l.set d v).toArray, df⟩ w) : wpAnyE P md ops Q S l0 (fuel + 1) listed ⟨l.toArray, df⟩ w := by
 refine wpAnyE_first hi (Region.noSelect_spec hs) hl (by simpa using hil) (fun c a w => hQ c a w _) fuel listed _ w (Region.free_spec hi hf) (by simpa using hr) (Or.inl ⟨hw, Or.inr ⟨f, args, hv, hc⟩⟩) hS ?_
 simpa only [hd, Act.put, List.setIfInBounds_toArray] using h
theorem oneE_ready {l0 fuel : Nat} {listed : Array Bool} {a : Act} {w : World} (i : Nat) {o : Oper} (hr : Region.ready md ops listed = [i]) (ho : ops[i]? = some o)
  (hw : Region.wanted o (yielded ops a.tmps) = true)
  (h : ∀ K' : Act → World → Prop, Hid (∀ a w, (i ≠ l0 → S w) → wpAnyE P md ops Q S l0 fuel (listed.setIfInBounds i true) a w → K' a w) → Oper.wp P o a w K' Q) : wpAnyE P md ops Q S l0 (fuel + 1) listed a w := by
 refine ⟨fun h0 => (by rw [hr] at h0; cases h0), fun j hj => ?_⟩
 rw [hr, List.mem_singleton] at hj
 subst hj
 refine wpOp_step ho fun K' hK => ?_
 rw [if_pos hw]
 exact h K' (Lib.hid fun a w hS hx => hK a w ⟨hS, hx⟩)
theorem wpAnyE_done {l0 : Nat} {listed : Array Bool} {a : Act} {w : World} (hr : Region.ready md ops listed = []) (h : Q .normal a w) : ∀ fuel, wpAnyE P md ops Q S l0 fuel listed a w
 | 0 => ⟨hr, h⟩
 | _ + 1 => ⟨fun _ => h, by rw [hr]; simp⟩
theorem wp_region_E {id : Nat} {a : Act} {w : World} (l0 : Nat) (hm : P.follows .mixedOrders = true) (hS : S w.drew) (h : S w.drew → wpAnyE P .any ops Q S l0 ops.size (Array.replicate ops.size false) a w.drew) : (Code.region id ops true).wp P Q a w :=
 wp_region_any hm (wpAny_of_E _ _ _ _ (h hS))
end
end Go.Proofs.YtbfoonfbhebhfaaGreatDoor
namespace Go.Proofs.YtbfoonfbhebhfaaGreatDoor
open Go.RowKit
set_option linter.unusedVariables false
set_option linter.unusedSimpArgs false
def AmEnd {α : Type} (c : α → List Value) (z : List Value) (t : TypeId) (l : List α) (f : α) (w0 : World) (e : Ending) (w : World) : Prop := ∃ g, e = .returned (.slice (some ⟨g, 0, none⟩) l.length (l.length + 3)) ∧ w0.heap.size ≤ g ∧ Amp c z t w g l f ∧ Below w0.heap.size w0 w
theorem wp_append_roomK {P : Program} {w : World} {o : Oper} {a : Act} {K : Act → World → Prop} {Q : Exit → Act → World → Prop} (s x : Operand) (t tx : TypeId) (hop : o.op = Op.call { callee := Callee.builtin Builtin.append, args := #[s, x], argTypes := #[t, tx] })
  (e : TypeId) (i : TypeInfo) (size : Nat) (ht : P.underlying t = some (.slice e)) (hi : P.info? e = some i) (hsz : i.size = size)
  (b off sLen sCap : Nat) (hs : a.eval s = .slice (some ⟨b, off, none⟩) sLen sCap) (xv : Value) (hx : a.eval x = xv) (n : Nat) (news : List Value) (hsrc : Src P size tx xv n news w)
  (hroom : sLen + n ≤ sCap) (hc : ∀ j, j < news.length → (w.cell? ⟨b, off + sLen * size + j, none⟩).isSome = true) (hf : ∀ j, j < news.length → w.frozen? ⟨b, off + sLen * size + j, none⟩ = false)
  (hK : K (a.put o.dst (.slice (some ⟨b, off, none⟩) (sLen + n) sCap)) (w.setCells b (off + sLen * size) news)) : o.wp P a w K Q := by
 subst hsz
 have hrun := run_append_room_src (P := P) (w := w) t tx o.type e i ht hi b off sLen sCap xv n news hsrc hroom hc hf
 unfold Oper.wp
 simp [execOp, hop, resolve, invoke, builtin, hs, hx, hrun, Result.andThen]
 exact hK
theorem cells_of {w : World} {b : Nat} {t : TypeId} {cs : Array Value} (h : w.heap[b]? = some (.cells cs t (0, 0))) (news : List Value) (hn : news = cs.toList) : ∀ (j : Nat) (u : Value), news[j]? = some u → w.cell? ((⟨b, 0, none⟩ : Addr).add j) = some u := by
 intro j u hj
 subst hn
 rw [Addr.add_lit, Nat.zero_add, cell_of_row _ _ _ _ _ _ h]
 simpa using hj
theorem amp_steps {α : Type} {n : Nat} {c : α → List Value} (hc : ∀ y, (c y).length = n) {t : TypeId} {z : α} {l : List α} {f : α} {B : Nat} {u : World} (h : u.heap[B]? = some (.cells ((List.replicate (l.length + 3) z).flatMap c).toArray t (0, 0))) :
  (∀ j, j < (l.flatMap c).length → (u.cell? ⟨B, 0 + 0 * n + j, none⟩).isSome = true) ∧ (∀ j, j < (l.flatMap c).length → u.frozen? ⟨B, 0 + 0 * n + j, none⟩ = false) ∧
  (u.setCells B (0 + 0 * n) (l.flatMap c)).heap[B]? = some (.cells (l.flatMap c ++ (List.replicate 3 z).flatMap c).toArray t (0, 0)) := by
 have hfl : (l.flatMap c).length = l.length * n := flat_length hc l
 have e : (List.replicate (l.length + 3) z).flatMap c = [] ++ (List.replicate l.length z).flatMap c ++ (List.replicate 3 z).flatMap c := by
  rw [List.nil_append, ← List.flatMap_append, List.replicate_append_replicate]
 have hz : ((List.replicate (l.length + 3) z).flatMap c).length = (l.length + 3) * n := by rw [flat_length hc, List.length_replicate]
 have hi := row_is h 0 (l.length * n) (by rw [List.size_toArray, hz, Nat.add_mul]; omega)
 refine ⟨fun j hj => ?_, fun j hj => ?_, ?_⟩
 ·
  rw [Nat.zero_mul, Nat.add_zero]; exact hi.1 j (by omega)
 ·
  rw [Nat.zero_mul, Nat.add_zero]; exact hi.2 j (by omega)
 ·
  rw [e] at h
  have := row_mid [] _ _ (l.flatMap c) h (by rw [hfl, flat_length hc, List.length_replicate])
  rw [Nat.zero_mul]
  simpa using this
theorem amp_steps2 {α : Type} {n : Nat} {c : α → List Value} (hc : ∀ y, (c y).length = n) {t : TypeId} {z : α} {l : List α} {f : α} {B : Nat} {u : World} (h : u.heap[B]? = some (.cells (l.flatMap c ++ (List.replicate 3 z).flatMap c).toArray t (0, 0))) :
  (∀ j, j < (c f ++ c f).length → (u.cell? ⟨B, 0 + (0 + l.length) * n + j, none⟩).isSome = true) ∧ (∀ j, j < (c f ++ c f).length → u.frozen? ⟨B, 0 + (0 + l.length) * n + j, none⟩ = false) ∧
  Amp c (c z) t (u.setCells B (0 + (0 + l.length) * n) (c f ++ c f)) B l f := by
 have hfl : (l.flatMap c).length = l.length * n := flat_length hc l
 have h2 : (c f ++ c f).length = 2 * n := by rw [List.length_append, hc]; omega
 have hi := row_is h (l.length * n) (2 * n) (by rw [List.size_toArray, List.length_append, hfl, flat_length hc, List.length_replicate]; omega)
 have e : (List.replicate 3 z).flatMap c = (c z ++ c z) ++ c z := by simp [List.replicate]
 rw [h2]
 refine ⟨fun j hj => ?_, fun j hj => ?_, ?_⟩
 ·
  rw [Nat.zero_add, Nat.zero_add]; exact hi.1 j hj
 ·
  rw [Nat.zero_add, Nat.zero_add]; exact hi.2 j hj
 ·
  rw [e, ← List.append_assoc] at h
  have := row_mid (l.flatMap c) (c z ++ c z) (c z) (c f ++ c f) h (by simp [hc])
  rw [hfl] at this
  unfold Amp
  rw [Nat.zero_add, Nat.zero_add]
  exact this
theorem grown_setCells {w0 w : World} {g : Nat} (h : w0.grownBy w (some g)) (o : Nat) (vs : List Value) : w0.grownBy (w.setCells g o vs) (some g) := by
 have hf := setCells_frame g vs o w
 refine ⟨?_, ?_, ?_, ?_, fun k hk hne => ?_⟩
 ·
  rw [hf.1]; exact h.os
 ·
  rw [hf.1]; exact h.tape
 ·
  rw [hf.1]; exact h.output
 ·
  rw [hf.2]; exact h.size
 ·
  rw [heap_setCells_other g k (fun e => hne (by rw [e])) vs o w]
  exact h.block k hk hne
theorem there_rowO {w : World} {b : Nat} {t : TypeId} {cs : Array Value} (h : w.heap[b]? = some (.cells cs t (0, 0))) (o n : Nat) (hn : o + n ≤ cs.size) : w.there b o n := fun j hj => by
 refine ⟨?_, frozen_of_row _ _ _ _ _ h⟩
 rw [cell_of_row _ _ _ _ _ _ h, Array.getElem?_eq_getElem (by omega)]
 rfl
theorem row_rangeA {w : World} {b : Nat} {t : TypeId} {cs : Array Value} (h : w.heap[b]? = some (.cells cs t (0, 0))) : w.rangeAt b 0 cs.toList := fun j v hj => by
 rw [Nat.zero_add, cell_of_row _ _ _ _ _ _ h]
 simpa using hj
theorem made_flat {α : Type} {n : Nat} {c : α → List Value} (hc : ∀ y, (c y).length = n) (hn : 0 < n) (z : α) (m : Nat) : madeCells (c z).toArray (m * n) = ((List.replicate m z).flatMap c).toArray := by
 apply Array.ext_getElem?
 intro k
 have hl : (List.replicate m z).length = m := List.length_replicate
 by_cases hk : k < m * n
 ·
  have hm : k / n < (List.replicate m z).length := by rw [hl]; exact Nat.div_lt_of_lt_mul (by rw [Nat.mul_comm]; exact hk)
  have hj : k % n < n := Nat.mod_lt _ hn
  have h1 := flat_get hc (List.replicate m z) (k / n) (k % n) hm hj
  have hd : k / n * n + k % n = k := by rw [Nat.mul_comm]; exact Nat.div_add_mod k n
  rw [hd, List.getElem_replicate] at h1
  have hR : (((List.replicate m z).flatMap c).toArray)[k]? = (c z)[k % n]? := by rw [List.getElem?_toArray, h1]
  rw [hR]
  have hs : (c z).toArray.size = n := by simp [hc]
  have hj' : k % n < (c z).length := by rw [hc]; exact hj
  simp only [madeCells, Array.getElem?_map, Array.getElem?_range, hk, if_true, Option.map_some, hs]
  rw [List.getElem?_eq_getElem hj', getElem!_pos (c z).toArray (k % n) (by simpa using hj')]
  simp
 ·
  have hR : (((List.replicate m z).flatMap c).toArray)[k]? = none := by rw [List.getElem?_toArray, List.getElem?_eq_none (by rw [flat_length hc, hl]; omega)]
  rw [hR, Array.getElem?_eq_none (by rw [size_madeCells]; omega)]
theorem take_call {P : Program} {ops : Array Oper} {Q : Exit → Act → World → Prop} {md : Region.Mode} {S : World → Prop} {fuel : Nat} {listed : Array Bool} {l : List Value} {df : List Deferred} {w : World} (i : Nat) {oi : Oper} {d : Nat} {f : FuncId} {args : Array Value} (v : Value)
  (hr : Region.ready md ops listed = [i]) (hi : ops[i]? = some oi) (hw : Region.wanted oi (yielded ops l.toArray) = true) (hd : oi.dst = some d)
  (he : (execOp (Act.mk l.toArray df).eval oi).run P w = .ok (.enter f args) w) (hc : Calls P f args w fun e w' => e = .returned v ∧ S w')
  (h : ∀ w', S w' → wpAnyH P md ops Q S fuel (listed.setIfInBounds i true) ⟨(l.set d v).toArray, df⟩ w') : wpAnyH P md ops Q S (fuel + 1) listed ⟨l.toArray, df⟩ w := by
 refine one_ready i hr hi hw (fun K' hK => ?_)
 unfold Oper.wp
 rw [he]
 refine Calls.mono hc ?_
 rintro e w' ⟨rfl, h1⟩
 refine hK.out _ _ h1 ?_
 have h2 := h w' h1
 simpa only [hd, Act.put, List.setIfInBounds_toArray] using h2
end Go.Proofs.YtbfoonfbhebhfaaGreatDoor
namespace Go.Proofs.YtbfoonfbhebhfaaGreatDoor
open Go.RowKit
theorem SAt.grown {α : Type} {n : Nat} {c : α → List Value} {w w' : World} {a : Option Addr} {l : List α} {g : Nat} (h : SAt n c w a l) (hg : w.grownBy w' (some g)) (hne : ∀ ad, a = some ad → ad.block ≠ g) : SAt n c w' a l := fun i hi => by
 obtain ⟨b, off, e, hb, hr⟩ := h i hi
 refine ⟨b, off, e, Nat.lt_of_lt_of_le hb hg.size, fun j u hu => ?_⟩
 rw [World.cell?_of_block (a := ⟨b, off + i * n + j, none⟩) (hg.block b hb (fun e2 => hne _ e (by injection e2)))]
 exact hr j u hu
theorem Amp.grown {α : Type} {c : α → List Value} {z : List Value} {t : TypeId} {w w' : World} {b g : Nat} {l : List α} {f : α} (h : Amp c z t w b l f) (hg : w.grownBy w' (some g)) (hne : b ≠ g) : Amp c z t w' b l f :=
 (hg.block b (lt_of_block h) (fun e => hne (by injection e))).trans h
theorem below_grown {B g : Nat} {a w w' : World} (h : Below B a w) (hg : w.grownBy w' (some g)) (hB : B ≤ w.heap.size) (hBg : B ≤ g) : Below B a w' := h.grown hg hB (fun k e => by injection e with e; omega)
def NB (B : Nat) (a : Option Addr) : Prop := ∀ ad, a = some ad → B ≤ ad.block
theorem NB.ne {B : Nat} {a : Option Addr} (h : NB B a) {g : Nat} (hg : g < B) : ∀ ad, a = some ad → ad.block ≠ g := fun ad e => by have := h ad e; omega
theorem NB.mono {B C : Nat} {a : Option Addr} (h : NB B a) (hC : C ≤ B) : NB C a := fun ad e => Nat.le_trans hC (h ad e)
theorem nb_own {w : World} {base : Nat} {a : Option Addr} {T : TypeId} {k n m c : Nat} {xs : List Value} (h : w.ownsRow base T k (.slice a m c) n xs) : NB base a := by
 intro ad e
 rcases h.2 with ⟨h0, _⟩ | ⟨g, c', cur, h0, hbg, _⟩
 ·
  injection h0 with h0 _ _
  rw [e] at h0
  cases h0
 ·
  injection h0 with h0 _ _
  rw [e] at h0
  injection h0 with h0
  subst h0
  exact hbg
theorem Amp.cells {α : Type} {c : α → List Value} {n : Nat} {z : List Value} {t : TypeId} {w : World} {b : Nat} {l : List α} {f : α} (h : Amp c z t w b l f) (hc : ∀ y, (c y).length = n) (hz : z.length = n) : ∃ cs, w.heap[b]? = some (.cells cs t (0, 0)) ∧ cs.size = (l.length + 3) * n := by
 refine ⟨_, h, ?_⟩
 simp only [List.size_toArray, List.length_append, flat_length hc, hc, hz, Nat.add_mul]
 omega
end Go.Proofs.YtbfoonfbhebhfaaGreatDoor
