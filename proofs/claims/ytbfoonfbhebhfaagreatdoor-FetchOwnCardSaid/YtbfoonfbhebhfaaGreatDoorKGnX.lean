/- Joined: WalkSeq. -/
import Derived.Test.YtbfoonfbhebhfaaGreatDoorKGnG
import Derived.Test.YtbfoonfbhebhfaaGreatDoorKGnT
import Derived.Test.YtbfoonfbhebhfaaGreatDoorKGnU
import Derived.Test.YtbfoonfbhebhfaaGreatDoorKGnW
namespace Go.Proofs.YtbfoonfbhebhfaaGreatDoor
open Go.RowKit Plain Go.Maps
set_option linter.unusedVariables false
set_option linter.unusedSimpArgs false
abbrev Wy := Int × Int × Int × Int
def WyOk (y : Wy) : Prop := if y.1 = 0 then CutOk y.2.1 y.2.2.1 y.2.2.2 else 16 ≤ y.1 ∧ y.1 ≤ 1024
def PcsOf (y : Wy) (s : ByteArray) (ps : List ByteArray) : Prop := if y.1 = 0 then (ruleI y.2.1 y.2.2.1 y.2.2.2).Cuts (strN s) (ps.map strN) else Fxd y.1.toNat (strN s) (ps.map strN)
theorem strNs_injW : ∀ {l m : List ByteArray}, l.map strN = m.map strN → l = m
 | [], [], _ => rfl
 | [], _ :: _, h => by simp at h
 | _ :: _, [], h => by simp at h
 | x :: l, y :: m, h => by
  simp only [List.map_cons, List.cons.injEq] at h
  rw [strN_inj h.1, strNs_injW h.2]
theorem Fxd.unique {n : Nat} {l : List Nat} {ps : List (List Nat)} (h : Fxd n l ps) : ∀ {qs}, Fxd n l qs → ps = qs := by
 induction h with
 | nil => intro qs g; cases g with
  | nil => rfl
  | cons h0 _ => exact absurd rfl h0
 | cons h0 _ ih => intro qs g; cases g with
  | nil => exact absurd rfl h0
  | cons _ g2 => rw [ih g2]
theorem PcsOf.unique {y : Wy} {s : ByteArray} {ps qs : List ByteArray} (h : PcsOf y s ps) (g : PcsOf y s qs) : ps = qs := by
 unfold PcsOf at h g
 split at h
 ·
  rename_i e; rw [if_pos e] at g; exact strNs_injW (h.unique g)
 ·
  rename_i e; rw [if_neg e] at g; exact strNs_injW (Fxd.unique h g)
theorem PcsOf.join {y : Wy} {s : ByteArray} {ps : List ByteArray} (h : PcsOf y s ps) : (ps.map strN).flatten = strN s := by
 unfold PcsOf at h
 split at h
 ·
  exact h.join
 ·
  exact h.join
open Classical in
noncomputable def pcsF (y : Wy) (s : ByteArray) : List ByteArray := if h : ∃ ps, PcsOf y s ps then h.choose else []
theorem pcsF_of {y : Wy} {s : ByteArray} {ps : List ByteArray} (h : PcsOf y s ps) : pcsF y s = ps := by
 unfold pcsF
 have hx : ∃ ps, PcsOf y s ps := ⟨ps, h⟩
 rw [dif_pos hx]
 exact hx.choose_spec.unique h
def PcsGood (y : Wy) (s : ByteArray) : Prop := PcsOf y s (pcsF y s) ∧ (∀ p ∈ pcsF y s, 1 ≤ p.size ∧ p.size ≤ 1024) ∧ (pcsF y s).length ≤ s.size / 16 + 1
theorem flat_len : ∀ (ps : List (List Nat)) (n : Nat), (∀ (i : Nat) (hi : i < ps.length), i + 1 < ps.length → n ≤ ps[i].length) → n * (ps.length - 1) ≤ ps.flatten.length
 | [], n, _ => by simp
 | [p], n, _ => by simp
 | p :: q :: l, n, h => by
  have h0 := h 0 (by simp) (by simp)
  have ih := flat_len (q :: l) n (fun i hi h1 => by
   have := h (i + 1) (by simp at hi ⊢; omega) (by simp at h1 ⊢; omega)
   simpa using this)
  simp only [List.getElem_cons_zero] at h0
  rw [List.flatten_cons, List.length_append]
  have e : (p :: q :: l).length - 1 = ((q :: l).length - 1) + 1 := by simp
  rw [e, Nat.mul_add]
  omega
theorem PcsOf.good {y : Wy} {s : ByteArray} {ps : List ByteArray} (h : PcsOf y s ps) (hy : WyOk y) : PcsGood y s := by
 have e := pcsF_of h
 have hj := h.join
 have key : (∀ p ∈ ps, 1 ≤ p.size ∧ p.size ≤ 1024) ∧ ∀ (i : Nat) (hi : i < (ps.map strN).length), i + 1 < (ps.map strN).length → 16 ≤ (ps.map strN)[i].length := by
  unfold WyOk at hy
  unfold PcsOf at h
  split at h
  ·
   rename_i e0
   rw [if_pos e0] at hy
   have hb := fun i hi => Rule.Cuts.bounds (ruleI_ok hy) h i hi
   obtain ⟨c1, c2, c3, c4, c5⟩ := hy
   have m1 : (ruleI y.2.1 y.2.2.1 y.2.2.2).mn = y.2.1.toNat := rfl
   have m2 : (ruleI y.2.1 y.2.2.1 y.2.2.2).mx = y.2.2.1.toNat := rfl
   refine ⟨fun p hp => ?_, fun i hi h1 => ?_⟩
   ·
    obtain ⟨i, hi, rfl⟩ := List.getElem_of_mem hp
    have := hb i (by simpa using hi)
    simp only [List.getElem_map, strN_length] at this
    omega
   ·
    have := hb i hi
    have := this.2.2 h1
    omega
  ·
   rename_i e0
   rw [if_neg e0] at hy
   have hb := Fxd.bounds (show 1 ≤ y.1.toNat by omega) h
   refine ⟨fun p hp => ?_, fun i hi h1 => ?_⟩
   ·
    obtain ⟨i, hi, rfl⟩ := List.getElem_of_mem hp
    have := hb i (by simpa using hi)
    simp only [List.getElem_map, strN_length] at this
    omega
   ·
    have := (hb i hi).2.2 h1
    omega
 refine ⟨by rw [e]; exact h, by rw [e]; exact key.1, ?_⟩
 rw [e]
 have h2 := flat_len _ 16 key.2
 rw [hj, strN_length, List.length_map] at h2
 omega
def mkI (l : List Nat) : ID8 := (l.getD 0 0, l.getD 1 0, l.getD 2 0, l.getD 3 0, l.getD 4 0, l.getD 5 0, l.getD 6 0, l.getD 7 0)
theorem idL_mkI {l : List Nat} (h : l.length = 8) : idL (mkI l) = l := by
 match l, h with
 | [a, b, c, d, e, f, g, i], _ => rfl
def idB (b : Bl) : ID8 := mkI (pidL b)
theorem idL_idB (b : Bl) : idL (idB b) = pidL b := idL_mkI (pidL_length b)
def nmW (x : It) : ByteArray := ⟨((nk x.1).getLast?.getD []).toArray⟩
def mkN (x : It) (sz : Int) (ids : List ID8) (lk : ByteArray) : MN := (nmW x, x.2.1, x.2.2.1, x.2.2.2.1, sz, (none, 0, ids), lk)
open Classical in
noncomputable def textF (l : List MN) : Option ByteArray := if h : ∃ t : ByteArray, WOk l ∧ Tx (l.map ndOf) (strN t) ∧ t.size ≤ 4096 then some h.choose else none
theorem textF_some {l : List MN} {t : ByteArray} (h : textF l = some t) : WOk l ∧ Tx (l.map ndOf) (strN t) ∧ t.size ≤ 4096 := by
 unfold textF at h
 split at h
 ·
  rename_i hx
  injection h with h
  rw [← h]
  exact hx.choose_spec
 ·
  cases h
theorem textF_of {l : List MN} {t : ByteArray} (h1 : WOk l) (h2 : Tx (l.map ndOf) (strN t)) (h3 : t.size ≤ 4096) : textF l = some t := by
 unfold textF
 have hx : ∃ t : ByteArray, WOk l ∧ Tx (l.map ndOf) (strN t) ∧ t.size ≤ 4096 := ⟨t, h1, h2, h3⟩
 rw [dif_pos hx]
 congr 1
 exact strN_inj (hx.choose_spec.2.1.unique h2)
theorem textF_none {l : List MN} (h : ¬ WOk l) : textF l = none := by
 unfold textF
 rw [dif_neg (fun ⟨t, h1, _⟩ => h h1)]
abbrev Sub := KT → Option (ByteArray × List Bl)
def dB (s : ByteArray) : Bl := (1, s)
open Classical in
noncomputable def nodeP (y : Wy) (sub : Sub) (x : It) : Option (MN × List Bl) :=
 if x.2.1 = 1 then if ¬ PcsGood y x.2.2.2.2 then none else some (mkN x x.2.2.2.2.size ((pcsF y x.2.2.2.2).map fun s => idB (dB s)) ⟨#[]⟩, (pcsF y x.2.2.2.2).map dB)
 else if x.2.1 = 2 then (sub (nk x.1)).map fun r => (mkN x 0 [idB (2, r.1)] ⟨#[]⟩, r.2)
 else some (mkN x 0 [] x.2.2.2.2, [])
noncomputable def nodesP (y : Wy) (sub : Sub) : List It → Option (List MN × List Bl)
 | [] => some ([], [])
 | x :: l => match nodeP y sub x with
  | none => none
  | some (m, S) => match nodesP y sub l with
   | none => none
   | some (ms, Ss) => some (m :: ms, S ++ Ss)
theorem nodesP_append (y : Wy) (sub : Sub) : ∀ (l m : List It), nodesP y sub (l ++ m) = match nodesP y sub l with
  | none => none
  | some (a, S) => match nodesP y sub m with
   | none => none
   | some (b, R) => some (a ++ b, S ++ R)
 | [], m => by
  simp only [List.nil_append, nodesP]
  cases nodesP y sub m with
  | none => rfl
  | some p => rfl
 | x :: l, m => by
  rw [List.cons_append, nodesP, nodesP, nodesP_append y sub l m]
  cases nodeP y sub x with
  | none => rfl
  | some p =>
   cases nodesP y sub l with
   | none => rfl
   | some q =>
    cases nodesP y sub m with
    | none => rfl
    | some r => simp
theorem nodesP_snoc (y : Wy) (sub : Sub) (l : List It) (x : It) : nodesP y sub (l ++ [x]) = match nodesP y sub l with
  | none => none
  | some (a, S) => match nodeP y sub x with
   | none => none
   | some (m, R) => some (a ++ [m], S ++ R) := by
 rw [nodesP_append]
 cases nodesP y sub l with
 | none => rfl
 | some p =>
  simp only [nodesP]
  cases nodeP y sub x with
  | none => rfl
  | some q => simp
noncomputable def dirG (y : Wy) (w : List It) (sub : Sub) (k : KT) : Option (ByteArray × List Bl) :=
 match nodesP y sub (kidsW w k) with
 | none => none
 | some (l, S) => (textF l).map fun t => (t, S ++ [((2 : Int), t)])
noncomputable def dirP (y : Wy) (w : List It) : Nat → Sub
 | 0 => dirG y w (fun _ => none)
 | n + 1 => dirG y w (dirP y w n)
noncomputable def subP (y : Wy) (w : List It) : Nat → Sub
 | 0 => fun _ => none
 | n + 1 => dirP y w n
theorem dirP_eq (y : Wy) (w : List It) (n : Nat) : dirP y w n = dirG y w (subP y w n) := by cases n <;> rfl
theorem dirG_some {y : Wy} {w : List It} {sub : Sub} {k : KT} {t : ByteArray} {S : List Bl} (h : dirG y w sub k = some (t, S)) : ∃ l R, nodesP y sub (kidsW w k) = some (l, R) ∧ textF l = some t ∧ S = R ++ [((2 : Int), t)] := by
 unfold dirG at h
 split at h
 ·
  cases h
 ·
  rename_i l R e
  cases ht : textF l with
  | none => rw [ht] at h; cases h
  | some u =>
   rw [ht] at h
   simp only [Option.map_some, Option.some.injEq, Prod.mk.injEq] at h
   obtain ⟨rfl, rfl⟩ := h
   exact ⟨l, R, e, ht, rfl⟩
def putF (st : Option (List Bl)) (b : Bl) : Option (List Bl) :=
 match st with
 | none => none
 | some out => if pcode b = 0 then (match out.find? (fun c => pidL c == pidL b) with
  | none => some (out ++ [b])
  | some c => if c = b then some out else none) else none
def addF (st : Option (List Bl)) (S : List Bl) : Option (List Bl) := S.foldl putF st
theorem addF_none : ∀ S, addF none S = none
 | [] => rfl
 | b :: S => addF_none S
theorem addF_append (st : Option (List Bl)) (S R : List Bl) : addF st (S ++ R) = addF (addF st S) R := List.foldl_append
theorem addF_cons (st : Option (List Bl)) (b : Bl) (S : List Bl) : addF st (b :: S) = addF (putF st b) S := rfl
def IdsOk (out : List Bl) : Prop := (∀ b ∈ out, pcode b = 0) ∧ (out.map pidL).Nodup
theorem putF_some {out out' : List Bl} {b : Bl} (h : putF (some out) b = some out') : pcode b = 0 ∧ ((b ∈ out ∧ out' = out) ∨ ((∀ c ∈ out, pidL c ≠ pidL b) ∧ out' = out ++ [b])) := by
 unfold putF at h
 simp only at h
 split at h
 ·
  rename_i h1
  refine ⟨h1, ?_⟩
  split at h
  ·
   rename_i h2
   injection h with h
   refine .inr ⟨fun c hc e => ?_, h.symm⟩
   have := List.find?_eq_none.1 h2 c hc
   simp [e] at this
  ·
   rename_i c h2
   split at h
   ·
    rename_i h3
    injection h with h
    subst h3
    exact .inl ⟨List.mem_of_find?_eq_some h2, h.symm⟩
   ·
    cases h
 ·
  cases h
theorem putF_ids {out out' : List Bl} {b : Bl} (h : putF (some out) b = some out') (ho : IdsOk out) : IdsOk out' := by
 obtain ⟨h1, ⟨h2, rfl⟩ | ⟨h2, rfl⟩⟩ := putF_some h
 ·
  exact ho
 ·
  refine ⟨fun c hc => ?_, ?_⟩
  ·
   rcases List.mem_append.1 hc with hc | hc
   ·
    exact ho.1 c hc
   ·
    rw [List.mem_singleton] at hc; subst hc; exact h1
  ·
   rw [List.map_append, List.nodup_append]
   refine ⟨ho.2, by simp, fun a ha c hc => ?_⟩
   simp only [List.map_cons, List.map_nil, List.mem_singleton] at hc
   subst hc
   obtain ⟨d, hd, rfl⟩ := List.mem_map.1 ha
   exact h2 d hd
theorem addF_some : ∀ {S : List Bl} {out out' : List Bl}, addF (some out) S = some out' → (∃ new, out' = out ++ new) ∧ (∀ b, b ∈ out' ↔ b ∈ out ∨ b ∈ S) ∧ (IdsOk out → IdsOk out')
 | [], out, out', h => by
  injection h with h
  subst h
  exact ⟨⟨[], by simp⟩, by simp, id⟩
 | b :: S, out, out', h => by
  rw [addF_cons] at h
  cases hp : putF (some out) b with
  | none => rw [hp, addF_none] at h; cases h
  | some o1 =>
   rw [hp] at h
   obtain ⟨⟨new, e⟩, h2, h3⟩ := addF_some h
   obtain ⟨h4, h5⟩ := putF_some hp
   refine ⟨?_, fun c => ?_, fun ho => h3 (putF_ids hp ho)⟩
   ·
    rcases h5 with ⟨_, rfl⟩ | ⟨_, rfl⟩
    ·
     exact ⟨new, e⟩
    ·
     exact ⟨b :: new, by rw [e]; simp⟩
   ·
    rw [h2 c]
    rcases h5 with ⟨h6, rfl⟩ | ⟨_, rfl⟩
    ·
     constructor
     ·
      rintro (g | g)
      ·
       exact .inl g
      ·
       exact .inr (List.mem_cons_of_mem _ g)
     ·
      rintro (g | g)
      ·
       exact .inl g
      ·
       rcases List.mem_cons.1 g with rfl | g
       ·
        exact .inl h6
       ·
        exact .inr g
    ·
     simp only [List.mem_append, List.mem_singleton, List.mem_cons, List.not_mem_nil, or_false]
     constructor
     ·
      rintro ((g | g) | g)
      ·
       exact .inl g
      ·
       exact .inr (.inl g)
      ·
       exact .inr (.inr g)
     ·
      rintro (g | (g | g))
      ·
       exact .inl (.inl g)
      ·
       exact .inl (.inr g)
      ·
       exact .inr g
theorem idsOk_nil : IdsOk [] := ⟨by simp, by simp⟩
theorem ids_inj {out : List Bl} (h : IdsOk out) {b c : Bl} (hb : b ∈ out) (hc : c ∈ out) (e : pidL b = pidL c) : b = c := by
 have h2 := h.2
 induction out with
 | nil => cases hb
 | cons d out ih =>
  rw [List.map_cons, List.nodup_cons] at h2
  rcases List.mem_cons.1 hb with e1 | hb1
  ·
   rcases List.mem_cons.1 hc with e2 | hc1
   ·
    rw [e1, e2]
   ·
    exact absurd (List.mem_map.2 ⟨c, hc1, by rw [← e, e1]⟩) h2.1
  ·
   rcases List.mem_cons.1 hc with e2 | hc1
   ·
    exact absurd (List.mem_map.2 ⟨b, hb1, by rw [e, e2]⟩) h2.1
   ·
    exact ih ⟨fun x hx => h.1 x (List.mem_cons_of_mem _ hx), h2.2⟩ hb1 hc1 h2.2
def Planted (y : Wy) (w : List It) (out : List Bl) (id : List Nat) : Prop := WyOk y ∧ wcode w = 0 ∧ ∃ t S, dirP y w 8 [] = some (t, S) ∧ addF (some []) S = some out ∧ id = pidL (2, t)
theorem Planted.unique {y : Wy} {w : List It} {out out' : List Bl} {id id' : List Nat} (h : Planted y w out id) (g : Planted y w out' id') : out = out' ∧ id = id' := by
 obtain ⟨_, _, t, S, h1, h2, rfl⟩ := h
 obtain ⟨_, _, t', S', g1, g2, rfl⟩ := g
 rw [h1] at g1
 simp only [Option.some.injEq, Prod.mk.injEq] at g1
 obtain ⟨rfl, rfl⟩ := g1
 rw [h2] at g2
 injection g2 with g2
 exact ⟨g2, rfl⟩
end Go.Proofs.YtbfoonfbhebhfaaGreatDoor
