/- A disk in plain words: what it shows, what is safe, the changes between, its fuse (plain Lean). -/
import Derived.Maps.OwnSet
import Derived.Maps.Views
import Derived.Sort.KeysCollected
namespace Go.Proofs.Ytmnmgoafemnppaa
namespace Plain
open Go.Maps
set_option linter.unusedVariables false
set_option linter.unusedSimpArgs false
abbrev TB := List UInt8
abbrev Fm := TB → Option TB
abbrev DM := DataW Unit
inductive Chg where
  | wr (n s : TB)
  | rn (a b : TB)
  | rm (n : TB)
def apC (c : Chg) (m : Nat) (F : Fm) : Fm := match c with
  | .wr n s => fun k => if k = n then some (s.take m) else F k
  | .rn a b => match F a with
    | none => F
    | some s => if a = b then F else fun k => if k = b then some s else if k = a then none else F k
  | .rm n => fun k => if k = n then none else F k
/-- texts that a machine can hold -/
def ChgZ : Chg → Prop
  | .wr n s => n.length ≤ maxLen ∧ s.length ≤ maxLen
  | .rn a b => a.length ≤ maxLen ∧ b.length ≤ maxLen
  | .rm n => n.length ≤ maxLen
structure Dst where
  room : Int
  F : Fm
  G : Fm
  C : List Chg
  fu : Bool
  lf : Int
def Dst.down (d : Dst) : Bool := d.fu && decide (d.lf = 0)
def Dst.dec (d : Dst) : Dst := if d.fu = true then { d with lf := d.lf - 1 } else d
def Dst.act (d : Dst) (c : Chg) : Dst := { d with F := apC c 65536 d.F, C := d.C ++ [c] }
def Dst.sync (d : Dst) : Dst := { d with G := d.F, C := [] }
def Dst.fuse (d : Dst) (n : Int) : Dst := { d with fu := decide (0 ≤ n), lf := max n 0 }
/-- one change of a crash: lost, kept, or kept in part -/
def kpC (c : Chg) (k : Int) (G : Fm) : Fm := if k < 1 then G else if k = 1 then apC c 65536 G else apC c (k - 2).toNat G
def crF : List Chg → List Int → Fm → Fm
  | [], _, G => G
  | _ :: _, [], G => G
  | c :: C, k :: K, G => crF C K (kpC c k G)
def Dst.crash (d : Dst) (K : List Int) : Dst := { d with F := crF d.C K d.G, G := crF d.C K d.G, C := [], fu := false }
def Dst.new (r : Int) : Dst := { room := r, F := fun _ => none, G := fun _ => none, C := [], fu := false, lf := 0 }
/-- the changes so far, and the next -/
theorem crF_snoc : ∀ (C : List Chg) (K : List Int) (G : Fm) (c : Chg), crF (C ++ [c]) K G = match K[C.length]? with
    | none => crF C K G
    | some k => kpC c k (crF C K G)
  | [], [], G, c => rfl
  | [], k :: K, G, c => rfl
  | d :: C, [], G, c => rfl
  | d :: C, k :: K, G, c => by
    rw [List.cons_append, crF, crF_snoc C K _ c]
    rfl
/-- all kept: the changes one after the other -/
theorem crF_ones : ∀ (C : List Chg) (n : Nat) (G : Fm), C.length ≤ n → crF C (List.replicate n 1) G = C.foldl (fun F c => apC c 65536 F) G
  | [], n, G, _ => by cases n <;> rfl
  | c :: C, 0, G, h => by simp at h
  | c :: C, n + 1, G, h => by
    rw [List.replicate_succ, crF, crF_ones C n _ (by simpa using h)]
    rfl
def lookM (D : DM) (k : TB) : Option TB := if has D (.string k) = true then (match D.atKey (.string k) (.lit (.string [])) with
  | .lit (.string v) => some v
  | _ => none) else none
theorem key_ok (k : TB) : WideAt.IsKeyLit (.string k) := by simp [WideAt.IsKeyLit]
theorem lookM_put {D : DM} (hD : IsMap D) (a v : TB) : lookM (D.put (.string a) (.lit (.string v))) = fun k => if k = a then some v else lookM D k := by
  funext k
  by_cases e : k = a
  · subst e
    rw [if_pos rfl]
    unfold lookM
    rw [has_put_same hD (key_ok k), if_pos rfl, atKey_put_same hD (key_ok k)]
  · have hne : (Lit.string k) ≠ .string a := fun h => e (by injection h)
    rw [if_neg e]
    unfold lookM
    rw [has_put_other hne, atKey_put_other hne]
theorem lookM_del (D : DM) (a : TB) : lookM (D.del (.string a)) = fun k => if k = a then none else lookM D k := by
  funext k
  by_cases e : k = a
  · subst e
    rw [if_pos rfl]
    unfold lookM
    rw [has_del_same, if_neg (by decide)]
  · have hne : (Lit.string k) ≠ .string a := fun h => e (by injection h)
    rw [if_neg e]
    unfold lookM
    rw [has_del_other hne, atKey_del_other hne]
theorem lookM_empty : lookM (.map []) = fun _ => none := by funext k; rfl
/-- the names, rising; what a disk shows -/
def skeys (D : DM) : List TB := (strKeys D).mergeSort leB
def filesL (D : DM) : List TB := (skeys D).flatMap fun k => [k, (lookM D k).getD []]
/-- each change and each file is a beginning of a text among W -/
def FmOf (W : TB → Prop) (F : Fm) : Prop := ∀ k v, F k = some v → ∃ t, W t ∧ v <+: t
def ChgOf (W : TB → Prop) : Chg → Prop
  | .wr _ s => W s
  | _ => True
theorem FmOf.ap {W : TB → Prop} {F : Fm} (h : FmOf W F) {c : Chg} (hc : ChgOf W c) (m : Nat) : FmOf W (apC c m F) := by
  intro k v hk
  cases c with
  | wr n s =>
    simp only [apC] at hk
    by_cases e : k = n
    · rw [if_pos e] at hk
      cases hk
      exact ⟨s, hc, List.take_prefix _ _⟩
    · rw [if_neg e] at hk; exact h k v hk
  | rn a b =>
    simp only [apC] at hk
    cases hs : F a with
    | none => rw [hs] at hk; exact h k v hk
    | some s =>
      rw [hs] at hk
      simp only at hk
      by_cases hab : a = b
      · rw [if_pos hab] at hk; exact h k v hk
      · rw [if_neg hab] at hk
        by_cases e : k = b
        · rw [if_pos e] at hk
          injection hk with hk
          subst hk
          exact h a _ hs
        · rw [if_neg e] at hk
          by_cases e2 : k = a
          · rw [if_pos e2] at hk; cases hk
          · rw [if_neg e2] at hk; exact h k v hk
  | rm n =>
    simp only [apC] at hk
    by_cases e : k = n
    · rw [if_pos e] at hk; cases hk
    · rw [if_neg e] at hk; exact h k v hk
theorem FmOf.kp {W : TB → Prop} {F : Fm} (h : FmOf W F) {c : Chg} (hc : ChgOf W c) (k : Int) : FmOf W (kpC c k F) := by
  unfold kpC
  split
  · exact h
  · split
    · exact h.ap hc _
    · exact h.ap hc _
theorem FmOf.cr {W : TB → Prop} : ∀ (C : List Chg) (K : List Int) {G : Fm}, (∀ c ∈ C, ChgOf W c) → FmOf W G → FmOf W (crF C K G)
  | [], _, G, _, h => h
  | _ :: _, [], G, _, h => h
  | c :: C, k :: K, G, hC, h => by
    rw [crF]
    exact FmOf.cr C K (fun x hx => hC x (by simp [hx])) (h.kp (hC c (by simp)) k)
/-- what a deed at a disk may do -/
def WrStep (d : Dst) (n s : TB) (e : Int) (d' : Dst) : Prop :=
  (d.down = true ∧ e = 17 ∧ d' = d) ∨ (d.down = false ∧ ((e ≠ 0 ∧ e ≠ 17 ∧ d' = d.dec) ∨ (e = 0 ∧ d' = d.dec.act (.wr n s) ∧ s.length ≤ 65536)))
def RnStep (d : Dst) (a b : TB) (e : Int) (d' : Dst) : Prop :=
  (d.down = true ∧ e = 17 ∧ d' = d) ∨ (d.down = false ∧ ((e ≠ 0 ∧ e ≠ 17 ∧ d' = d.dec) ∨ (e = 0 ∧ d' = d.dec.act (.rn a b))))
def RmStep (d : Dst) (n : TB) (e : Int) (d' : Dst) : Prop :=
  (d.down = true ∧ e = 17 ∧ d' = d) ∨ (d.down = false ∧ ((e ≠ 0 ∧ e ≠ 17 ∧ d' = d.dec) ∨ (e = 0 ∧ d' = d.dec.act (.rm n))))
def SyStep (d : Dst) (e : Int) (d' : Dst) : Prop :=
  (d.down = true ∧ e = 17 ∧ d' = d) ∨ (d.down = false ∧ e = 0 ∧ d' = d.dec.sync)
abbrev Dd := Int × TB × TB × Int × List Int
def DdStep (d : Dst) (x : Dd) (e : Int) (d' : Dst) : Prop :=
  if x.1 = 1 then WrStep d x.2.1 x.2.2.1 e d' else if x.1 = 2 then RnStep d x.2.1 x.2.2.1 e d' else if x.1 = 3 then RmStep d x.2.1 e d' else if x.1 = 4 then SyStep d e d' else if x.1 = 7 then e = 0 ∧ d' = d.fuse x.2.2.2.1 else if x.1 = 8 then e = 0 ∧ d' = d.crash x.2.2.2.2 else e = 0 ∧ d' = d
/-- the files are the safe ones with all changes made -/
def Whole (d : Dst) : Prop := d.F = d.C.foldl (fun F c => apC c 65536 F) d.G
theorem Whole.dec {d : Dst} (h : Whole d) : Whole d.dec := by
  unfold Dst.dec
  split
  · exact h
  · exact h
theorem Whole.act {d : Dst} (h : Whole d) (c : Chg) : Whole (d.act c) := by
  unfold Whole Dst.act at *
  simp only
  rw [List.foldl_append, ← h]
  rfl
theorem whole_step {d d' : Dst} {x : Dd} {e : Int} (h : Whole d) (hs : DdStep d x e d') : Whole d' := by
  unfold DdStep at hs
  split at hs
  · rcases hs with ⟨_, _, rfl⟩ | ⟨_, ⟨_, _, rfl⟩ | ⟨_, rfl, _⟩⟩
    · exact h
    · exact h.dec
    · exact h.dec.act _
  · split at hs
    · rcases hs with ⟨_, _, rfl⟩ | ⟨_, ⟨_, _, rfl⟩ | ⟨_, rfl⟩⟩
      · exact h
      · exact h.dec
      · exact h.dec.act _
    · split at hs
      · rcases hs with ⟨_, _, rfl⟩ | ⟨_, ⟨_, _, rfl⟩ | ⟨_, rfl⟩⟩
        · exact h
        · exact h.dec
        · exact h.dec.act _
      · split at hs
        · rcases hs with ⟨_, _, rfl⟩ | ⟨_, _, rfl⟩
          · exact h
          · rfl
        · split at hs
          · obtain ⟨_, rfl⟩ := hs; exact h
          · split at hs
            · obtain ⟨_, rfl⟩ := hs; rfl
            · obtain ⟨_, rfl⟩ := hs; exact h
/-- all that is on a disk was written -/
def Torn (W : TB → Prop) (d : Dst) : Prop := FmOf W d.F ∧ FmOf W d.G ∧ ∀ c ∈ d.C, ChgOf W c
theorem Torn.dec {W : TB → Prop} {d : Dst} (h : Torn W d) : Torn W d.dec := by
  unfold Dst.dec
  split
  · exact h
  · exact h
theorem Torn.act {W : TB → Prop} {d : Dst} (h : Torn W d) {c : Chg} (hc : ChgOf W c) : Torn W (d.act c) :=
  ⟨h.1.ap hc _, h.2.1, fun x hx => by
    rcases List.mem_append.1 hx with hx | hx
    · exact h.2.2 x hx
    · rw [List.mem_singleton] at hx; subst hx; exact hc⟩
theorem Torn.crash {W : TB → Prop} {d : Dst} (h : Torn W d) (K : List Int) : Torn W (d.crash K) :=
  ⟨FmOf.cr _ _ h.2.2 h.2.1, FmOf.cr _ _ h.2.2 h.2.1, fun x hx => by cases hx⟩
theorem torn_step {W : TB → Prop} {d d' : Dst} {x : Dd} {e : Int} (h : Torn W d) (hx : x.1 = 1 → W x.2.2.1) (hs : DdStep d x e d') : Torn W d' := by
  unfold DdStep at hs
  split at hs
  · rename_i h1
    rcases hs with ⟨_, _, rfl⟩ | ⟨_, ⟨_, _, rfl⟩ | ⟨_, rfl, _⟩⟩
    · exact h
    · exact h.dec
    · exact h.dec.act (c := .wr _ _) (hx h1)
  · split at hs
    · rcases hs with ⟨_, _, rfl⟩ | ⟨_, ⟨_, _, rfl⟩ | ⟨_, rfl⟩⟩
      · exact h
      · exact h.dec
      · exact h.dec.act (c := .rn _ _) trivial
    · split at hs
      · rcases hs with ⟨_, _, rfl⟩ | ⟨_, ⟨_, _, rfl⟩ | ⟨_, rfl⟩⟩
        · exact h
        · exact h.dec
        · exact h.dec.act (c := .rm _) trivial
      · split at hs
        · rcases hs with ⟨_, _, rfl⟩ | ⟨_, _, rfl⟩
          · exact h
          · exact ⟨h.dec.1, h.dec.1, fun x hx => by cases hx⟩
        · split at hs
          · obtain ⟨_, rfl⟩ := hs; exact h
          · split at hs
            · obtain ⟨_, rfl⟩ := hs; exact h.crash _
            · obtain ⟨_, rfl⟩ := hs; exact h
/-- the fuse: a deed of the four kinds -/
theorem fuse_step {d d' : Dst} {x : Dd} {e : Int} (hk : 1 ≤ x.1 ∧ x.1 ≤ 4) (hf : d.fu = true) (h0 : 0 ≤ d.lf) (hs : DdStep d x e d') : (e = 17 ↔ d.lf = 0) ∧ d'.fu = true ∧ d'.lf = max 0 (d.lf - 1) := by
  have hdec : d.dec = { d with lf := d.lf - 1 } := by unfold Dst.dec; rw [if_pos hf]
  have hdn : d.down = true ↔ d.lf = 0 := by unfold Dst.down; rw [hf]; simp
  have hdn2 : d.down = false ↔ ¬ d.lf = 0 := by unfold Dst.down; rw [hf]; simp
  have hd1 : d.dec.fu = true ∧ d.dec.lf = d.lf - 1 := by rw [hdec]; exact ⟨hf, rfl⟩
  have key : ∀ (c : Option Chg), (e ≠ 17 ∧ d.down = false ∧ d'.fu = d.dec.fu ∧ d'.lf = d.dec.lf) ∨ (d.down = true ∧ e = 17 ∧ d' = d) → (e = 17 ↔ d.lf = 0) ∧ d'.fu = true ∧ d'.lf = max 0 (d.lf - 1) := by
    intro _ h
    rcases h with ⟨h1, h2, h3, h4⟩ | ⟨h1, h2, rfl⟩
    · have := hdn2.1 h2
      refine ⟨⟨fun h => absurd h h1, fun h => absurd h this⟩, by rw [h3]; exact hd1.1, by rw [h4, hd1.2]; omega⟩
    · have := hdn.1 h1
      exact ⟨⟨fun _ => this, fun _ => h2⟩, hf, by omega⟩
  unfold DdStep at hs
  split at hs
  · rcases hs with ⟨h1, h2, rfl⟩ | ⟨h1, ⟨_, h2, rfl⟩ | ⟨h2, rfl, _⟩⟩
    · exact key none (.inr ⟨h1, h2, rfl⟩)
    · exact key none (.inl ⟨h2, h1, rfl, rfl⟩)
    · exact key none (.inl ⟨by omega, h1, rfl, rfl⟩)
  · split at hs
    · rcases hs with ⟨h1, h2, rfl⟩ | ⟨h1, ⟨_, h2, rfl⟩ | ⟨h2, rfl⟩⟩
      · exact key none (.inr ⟨h1, h2, rfl⟩)
      · exact key none (.inl ⟨h2, h1, rfl, rfl⟩)
      · exact key none (.inl ⟨by omega, h1, rfl, rfl⟩)
    · split at hs
      · rcases hs with ⟨h1, h2, rfl⟩ | ⟨h1, ⟨_, h2, rfl⟩ | ⟨h2, rfl⟩⟩
        · exact key none (.inr ⟨h1, h2, rfl⟩)
        · exact key none (.inl ⟨h2, h1, rfl, rfl⟩)
        · exact key none (.inl ⟨by omega, h1, rfl, rfl⟩)
      · split at hs
        · rcases hs with ⟨h1, h2, rfl⟩ | ⟨h1, h2, rfl⟩
          · exact key none (.inr ⟨h1, h2, rfl⟩)
          · exact key none (.inl ⟨by omega, h1, rfl, rfl⟩)
        · omega
end Plain
end Go.Proofs.Ytmnmgoafemnppaa
