/- Patterns in plain words: what a pattern's parts are, which names they match, which paths rules leave out (plain Lean). -/
import Derived.Test.YtokckcmkbnhhhaaDoorNamesChk
namespace Go.Proofs.YtokckcmkbnhhhaaDoor
namespace Plain
set_option linter.unusedVariables false
set_option linter.unusedSimpArgs false
abbrev Sp := Nat × Nat
abbrev El := Nat × List Sp × Bool
abbrev Pt := Bool × List El
def rnL (s : ByteArray) : Nat → Nat → List Nat
  | 0, _ => []
  | n + 1, i => if i < s.size then (Utf8.decode s i).1 :: rnL s n (i + (Utf8.decode s i).2) else []
def runes (s : ByteArray) : List Nat := rnL s s.size 0
def takeP (c : Nat) (l : List Nat) : Bool × List Nat := match l with
  | [] => (false, [])
  | d :: m => if d = c then (true, m) else (false, l)
theorem takeP_le (c : Nat) (l : List Nat) : (takeP c l).2.length ≤ l.length := by
  unfold takeP
  split
  · simp
  · split <;> simp
def itemP (l : List Nat) : Option (Nat × List Nat) := match l with
  | [] => none
  | c :: l => if c = 93 then none else if c = 92 then (match l with
    | [] => none
    | d :: m => some (d, m)) else some (c, l)
theorem itemP_lt {l m : List Nat} {c : Nat} (h : itemP l = some (c, m)) : m.length < l.length := by
  unfold itemP at h
  split at h
  · cases h
  · split at h
    · cases h
    · split at h
      · split at h
        · cases h
        · injection h with h; injection h with _ h; subst h; simp; omega
      · injection h with h; injection h with _ h; subst h; simp
def spanP (l : List Nat) : Option (Sp × List Nat) := match itemP l with
  | none => none
  | some (f, l1) => if (takeP 45 l1).1 = true then (match itemP (takeP 45 l1).2 with
    | none => none
    | some (t, l2) => if t < f then none else some ((f, t), l2)) else some ((f, f), l1)
theorem spanP_lt {l m : List Nat} {s : Sp} (h : spanP l = some (s, m)) : m.length < l.length := by
  unfold spanP at h
  split at h
  · cases h
  · rename_i f l1 h1
    have := itemP_lt h1
    split at h
    · split at h
      · cases h
      · rename_i t l2 h2
        have h3 := itemP_lt h2
        have := takeP_le 45 l1
        split at h
        · cases h
        · injection h with h; injection h with _ h; subst h; omega
    · injection h with h; injection h with _ h; subst h; omega
def classL : Nat → List Sp → List Nat → Option (List Sp × List Nat)
  | 0, _, _ => none
  | n + 1, S, l => if S ≠ [] ∧ (takeP 93 l).1 = true then some (S, (takeP 93 l).2) else match spanP l with
    | none => none
    | some (s, m) => classL n (S ++ [s]) m
theorem classL_fuel : ∀ (n m : Nat) (S : List Sp) (l : List Nat), l.length < n → l.length < m → classL n S l = classL m S l
  | 0, _, _, _, h, _ => by omega
  | n + 1, 0, _, _, _, h => by omega
  | n + 1, m + 1, S, l, hn, hm => by
    simp only [classL]
    split
    · rfl
    · cases h : spanP l with
      | none => rfl
      | some x =>
        obtain ⟨s, l'⟩ := x
        have := spanP_lt h
        exact classL_fuel n m _ _ (by omega) (by omega)
def classR (S : List Sp) (l : List Nat) : Option (List Sp × List Nat) := classL (l.length + 1) S l
theorem classR_eq (S : List Sp) (l : List Nat) : classR S l = if S ≠ [] ∧ (takeP 93 l).1 = true then some (S, (takeP 93 l).2) else match spanP l with
    | none => none
    | some (s, m) => classR (S ++ [s]) m := by
  unfold classR
  rw [classL]
  split
  · rfl
  · cases h : spanP l with
    | none => rfl
    | some x =>
      obtain ⟨s, l'⟩ := x
      have := spanP_lt h
      exact classL_fuel _ _ _ _ (by omega) (by omega)
theorem classL_le : ∀ (n : Nat) (S : List Sp) (l : List Nat) {S' : List Sp} {m : List Nat}, classL n S l = some (S', m) → m.length ≤ l.length ∧ S'.length ≤ S.length + l.length
  | 0, _, _, _, _, h => by cases h
  | n + 1, S, l, S', m, h => by
    rw [classL] at h
    split at h
    · injection h with h; injection h with h1 h2; subst h1; subst h2; exact ⟨takeP_le _ _, by omega⟩
    · split at h
      · cases h
      · rename_i s l' hs
        have h1 := spanP_lt hs
        have h2 := classL_le n _ _ h
        rw [List.length_append, List.length_singleton] at h2
        omega
def classP (l : List Nat) : Option (El × List Nat) := match classR [] (takeP 94 l).2 with
  | none => none
  | some (S, m) => some ((0, S, (takeP 94 l).1), m)
theorem classP_le {l m : List Nat} {x : El} (h : classP l = some (x, m)) : m.length ≤ l.length := by
  unfold classP at h
  split at h
  · cases h
  · rename_i S m' hc
    injection h with h
    injection h with _ h
    subst h
    have := (classL_le _ _ _ hc).1
    have := takeP_le 94 l
    omega
def elemP (c : Nat) (l : List Nat) : Option (El × List Nat) :=
  if c = 42 then some ((2, [], false), l) else if c = 63 then some ((1, [], false), l) else if c = 92 then (match l with
    | [] => none
    | d :: m => some ((0, [(d, d)], false), m)) else if c = 91 then classP l else some ((0, [(c, c)], false), l)
theorem elemP_le {c : Nat} {l m : List Nat} {x : El} (h : elemP c l = some (x, m)) : m.length ≤ l.length := by
  unfold elemP at h
  split at h
  · injection h with h; injection h with _ h; subst h; omega
  · split at h
    · injection h with h; injection h with _ h; subst h; omega
    · split at h
      · split at h
        · cases h
        · injection h with h; injection h with _ h; subst h; simp
      · split at h
        · exact classP_le h
        · injection h with h; injection h with _ h; subst h; omega
def elemsL : Nat → List Nat → Option (List El)
  | 0, _ => none
  | n + 1, [] => some []
  | n + 1, c :: l => match elemP c l with
    | none => none
    | some (x, m) => (elemsL n m).map (x :: ·)
theorem elemsL_fuel : ∀ (n m : Nat) (l : List Nat), l.length < n → l.length < m → elemsL n l = elemsL m l
  | 0, _, _, h, _ => by omega
  | n + 1, 0, _, _, h => by omega
  | n + 1, m + 1, [], hn, hm => rfl
  | n + 1, m + 1, c :: l, hn, hm => by
    simp only [elemsL]
    cases h : elemP c l with
    | none => rfl
    | some x =>
      obtain ⟨s, l'⟩ := x
      have := elemP_le h
      simp only [List.length_cons] at hn hm
      show Option.map _ _ = Option.map _ _
      rw [elemsL_fuel n m _ (by omega) (by omega)]
def elemsP (l : List Nat) : Option (List El) := elemsL (l.length + 1) l
theorem elemsP_nil : elemsP [] = some [] := rfl
theorem elemsP_cons (c : Nat) (l : List Nat) : elemsP (c :: l) = match elemP c l with
    | none => none
    | some (x, m) => (elemsP m).map (x :: ·) := by
  unfold elemsP
  rw [List.length_cons, elemsL]
  cases h : elemP c l with
  | none => rfl
  | some x =>
    obtain ⟨s, l'⟩ := x
    have := elemP_le h
    show Option.map _ _ = Option.map _ _
    rw [elemsL_fuel (l.length + 1) (l'.length + 1) _ (by omega) (by omega)]
def mkT (t : T) : ByteArray := ⟨t.toArray⟩
def partP (t : T) : Option Pt := if t = [] then none else match elemsP (runes (mkT t)) with
  | none => none
  | some E => some (decide (t = [42, 42]), E)
def partsP : List T → Option (List Pt)
  | [] => some []
  | t :: l => match partP t with
    | none => none
    | some x => (partsP l).map (x :: ·)
theorem partsP_append : ∀ l m : List T, partsP (l ++ m) = match partsP l, partsP m with
    | some a, some b => some (a ++ b)
    | _, _ => none
  | [], m => by cases h : partsP m <;> simp [partsP, h]
  | t :: l, m => by
    simp only [List.cons_append, partsP, partsP_append l m]
    cases partP t with
    | none => rfl
    | some x => cases partsP l <;> cases partsP m <;> rfl
theorem partsP_length : ∀ {l : List T} {L : List Pt}, partsP l = some L → L.length = l.length
  | [], L, h => by injection h with h; subst h; rfl
  | t :: l, L, h => by
    rw [partsP] at h
    split at h
    · cases h
    · cases h2 : partsP l with
      | none => rw [h2] at h; cases h
      | some M =>
        rw [h2] at h
        injection h with h
        subst h
        simp [partsP_length h2]
/-- a pattern: its parts and the code -/
def parseP (p : T) : List Pt × Int := if 60 < p.length then ([], 2) else match p with
  | [] => ([], 13)
  | c :: rest => if c = 47 ∧ Lib.validD p = true then (match partsP (spl rest) with
    | none => ([], 13)
    | some L => (L, 0)) else ([], 13)
theorem parseP_ok {p : T} (h : (parseP p).2 = 0) : p.length ≤ 60 ∧ ∃ rest, p = 47 :: rest ∧ Lib.validD p = true ∧ partsP (spl rest) = some (parseP p).1 := by
  unfold parseP at h ⊢
  by_cases h1 : 60 < p.length
  · rw [if_pos h1] at h; cases h
  · rw [if_neg h1] at h ⊢
    refine ⟨by omega, ?_⟩
    cases p with
    | nil => cases h
    | cons c rest =>
      simp only at h ⊢
      by_cases h2 : c = 47 ∧ Lib.validD (c :: rest) = true
      · rw [if_pos h2] at h ⊢
        obtain ⟨rfl, hv⟩ := h2
        refine ⟨rest, rfl, hv, ?_⟩
        cases h3 : partsP (spl rest) with
        | none => rw [h3] at h; cases h
        | some L => rfl
      · rw [if_neg h2] at h; cases h
theorem parseP_of {rest : T} {L : List Pt} (h1 : rest.length < 60) (hv : Lib.validD (47 :: rest) = true) (h : partsP (spl rest) = some L) : parseP (47 :: rest) = (L, 0) := by
  unfold parseP
  rw [if_neg (by simp; omega)]
  show (if (47 : UInt8) = 47 ∧ Lib.validD (47 :: rest) = true then _ else _) = _
  rw [if_pos ⟨rfl, hv⟩, h]
/-- items against things, where some items match any number of them: one row from the row before -/
def stepD (any : Bool) (m : Nat → Bool) (now : Nat → Bool) : Nat → Bool
  | 0 => any && now 0
  | k + 1 => if any = true then now (k + 1) || stepD any m now k else now k && m k
def seqD (A : Nat → Bool) (M : Nat → Nat → Bool) : Nat → Nat → Bool
  | 0 => fun k => decide (k = 0)
  | i + 1 => stepD (A i) (M i) (seqD A M i)
theorem stepD_congr {a : Bool} {m m' now now' : Nat → Bool} {K : Nat} (hm : ∀ k, k < K → m k = m' k) (hn : ∀ k, k ≤ K → now k = now' k) : ∀ k, k ≤ K → stepD a m now k = stepD a m' now' k
  | 0, _ => by simp only [stepD]; rw [hn 0 (by omega)]
  | k + 1, h => by simp only [stepD]; rw [hn (k + 1) h, stepD_congr hm hn k (by omega), hn k (by omega), hm k (by omega)]
theorem seqD_congr {A A' : Nat → Bool} {M M' : Nat → Nat → Bool} {K : Nat} : ∀ (n : Nat), (∀ i, i < n → A i = A' i) → (∀ i k, i < n → k < K → M i k = M' i k) → ∀ k, k ≤ K → seqD A M n k = seqD A' M' n k
  | 0, _, _, k, _ => rfl
  | n + 1, ha, hm, k, hk => by
    simp only [seqD]
    rw [ha n (by omega)]
    exact stepD_congr (fun k hk => hm n k (by omega) hk) (fun k hk => seqD_congr n (fun i h => ha i (by omega)) (fun i k h hk => hm i k (by omega) hk) k hk) k hk
def elMatch (x : El) (c : Nat) : Bool := if x.1 = 1 then true else (x.2.1.any fun s => decide (s.1 ≤ c) && decide (c ≤ s.2)) != x.2.2
def elG (E : List El) (i : Nat) : El := E.getD i (0, [], false)
def ptG (L : List Pt) (i : Nat) : Pt := L.getD i (false, [])
def nameP (E : List El) (c : List Nat) : Bool := seqD (fun i => decide ((elG E i).1 = 2)) (fun i k => elMatch (elG E i) (c.getD k 0)) E.length c.length
def pathP (L : List Pt) (s : List T) : Bool := seqD (fun i => (ptG L i).1) (fun i k => nameP (ptG L i).2 (runes (mkT (s.getD k [])))) L.length s.length
def matchP (p q : T) : Bool × Int := if (parseP p).2 ≠ 0 then (false, (parseP p).2) else if (splP ck q).2 ≠ 0 then (false, (splP ck q).2) else (pathP (parseP p).1 (splP ck q).1, 0)
def fitsP (p q : T) : Bool := (matchP p q).1 && decide ((matchP p q).2 = 0)
/-- rules: whether each takes back, its parts; or the first error -/
def ruleT (r : T) : T := match r with
  | 33 :: r => r
  | r => r
def ruleB (r : T) : Bool := match r with
  | 33 :: _ => true
  | _ => false
def rulesP : List T → List (List Pt) × Int
  | [] => ([], 0)
  | r :: l => if (parseP (ruleT r)).2 ≠ 0 then ([], (parseP (ruleT r)).2) else if (rulesP l).2 ≠ 0 then ([], (rulesP l).2) else ((parseP (ruleT r)).1 :: (rulesP l).1, 0)
/-- whether the last rule that matches leaves out -/
def outN (rules : List T) (P : List (List Pt)) (s : List T) : Nat → Bool
  | 0 => false
  | i + 1 => if pathP (P.getD i []) s = true then !ruleB (rules.getD i []) else outN rules P s i
/-- whether one of the first n beginnings is left out -/
def anyN (rules : List T) (P : List (List Pt)) (s : List T) : Nat → Bool
  | 0 => false
  | n + 1 => anyN rules P s n || outN rules P (s.take (n + 1)) rules.length
def skipsP (rules : List T) (p : T) : Bool × Int := if 20 < rules.length then (false, 2) else if (rulesP rules).2 ≠ 0 then (false, (rulesP rules).2) else if (splP ck p).2 ≠ 0 then (false, (splP ck p).2) else (anyN rules (rulesP rules).1 (splP ck p).1 (splP ck p).1.length, 0)
end Plain
end Go.Proofs.YtokckcmkbnhhhaaDoor
