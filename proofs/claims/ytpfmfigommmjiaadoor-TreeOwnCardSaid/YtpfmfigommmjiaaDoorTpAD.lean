/- Joined: NamesPlain. -/
import Derived.Lib.Bytealg
import Derived.Lib.Join
namespace Go.Proofs.YtpfmfigommmjiaaDoor
namespace Plain
abbrev T := List UInt8
def spl : T → List T
  | [] => [[]]
  | c :: l => if c = 47 then [] :: spl l else match spl l with
    | [] => [[c]]
    | h :: t => (c :: h) :: t
def jn : List T → T
  | [] => []
  | [a] => a
  | a :: b :: l => a ++ 47 :: jn (b :: l)
theorem spl_ne : ∀ s, spl s ≠ []
  | [] => by simp [spl]
  | c :: l => by
    rw [spl]; split
    · simp
    · split <;> simp
theorem spl_cons_other {c : UInt8} (h : c ≠ 47) (l : T) : ∃ a t, spl l = a :: t ∧ spl (c :: l) = (c :: a) :: t := by
  cases e : spl l with
  | nil => exact absurd e (spl_ne l)
  | cons a t => exact ⟨a, t, rfl, by rw [spl, if_neg h, e]⟩
theorem jn_cons (a : T) {l : List T} (h : l ≠ []) : jn (a :: l) = a ++ 47 :: jn l := by
  cases l with
  | nil => exact absurd rfl h
  | cons b l => rfl
theorem jn_spl : ∀ s, jn (spl s) = s
  | [] => rfl
  | c :: l => by
    by_cases h : c = 47
    · subst h
      rw [spl, if_pos rfl, jn_cons _ (spl_ne l), jn_spl l]; rfl
    · obtain ⟨a, t, h1, h2⟩ := spl_cons_other h l
      have ih := jn_spl l
      rw [h1] at ih
      rw [h2]
      cases t with
      | nil => simp only [jn] at *; rw [ih]
      | cons b t => simp only [jn, List.cons_append] at *; rw [ih]
theorem spl_append : ∀ s t, spl (s ++ 47 :: t) = spl s ++ spl t
  | [], t => by simp [spl]
  | c :: l, t => by
    have ih := spl_append l t
    by_cases h : c = 47
    · subst h
      rw [List.cons_append, spl, if_pos rfl, ih, spl, if_pos rfl]; rfl
    · obtain ⟨a, u, h1, h2⟩ := spl_cons_other h l
      rw [h1] at ih
      rw [h2, List.cons_append, spl, if_neg h, ih]; rfl
theorem spl_plain : ∀ a : T, 47 ∉ a → spl a = [a]
  | [], _ => rfl
  | c :: l, h => by
    have hc : c ≠ 47 := fun e => h (by simp [e])
    rw [spl, if_neg hc, spl_plain l (fun e => h (by simp [e]))]
theorem spl_jn : ∀ l : List T, l ≠ [] → (∀ a ∈ l, 47 ∉ a) → spl (jn l) = l
  | [], h, _ => absurd rfl h
  | [a], _, ha => spl_plain a (ha a (by simp))
  | a :: b :: l, _, ha => by
    rw [jn_cons a (by simp), spl_append, spl_plain a (ha a (by simp)), spl_jn (b :: l) (by simp) (fun x hx => ha x (by simp [hx]))]; rfl
theorem jn_append {l m : List T} (hl : l ≠ []) (hm : m ≠ []) : jn (l ++ m) = jn l ++ 47 :: jn m := by
  induction l with
  | nil => exact absurd rfl hl
  | cons a l ih =>
    cases l with
    | nil => rw [List.cons_append, List.nil_append, jn_cons a hm]; rfl
    | cons b l => rw [List.cons_append, jn_cons a (by simp), ih (by simp), jn_cons a (by simp)]; simp
/-- What a check of names must be like. -/
def CkOk (ck : T → Int) : Prop := ∀ a, ck a = 0 → 47 ∉ a ∧ a ≠ [] ∧ a ≠ [46] ∧ a ≠ [46, 46]
def chkAll (ck : T → Int) : List T → Nat → Int
  | [], _ => 0
  | a :: l, i => if 8 ≤ i then 14 else if ck a ≠ 0 then ck a else chkAll ck l (i + 1)
theorem chkAll_ok (ck : T → Int) : ∀ (l : List T) (i : Nat), chkAll ck l i = 0 ↔ (l = [] ∨ i + l.length ≤ 8) ∧ ∀ a ∈ l, ck a = 0
  | [], i => by simp [chkAll]
  | a :: l, i => by
    rw [chkAll]
    by_cases h8 : 8 ≤ i
    · rw [if_pos h8]
      constructor
      · intro h; omega
      · rintro ⟨h | h, _⟩
        · cases h
        · simp at h; omega
    · rw [if_neg h8]
      by_cases hc : ck a = 0
      · rw [if_neg (by simp [hc]), chkAll_ok ck l (i + 1)]
        simp only [List.mem_cons, forall_eq_or_imp, hc, true_and, List.length_cons]
        constructor
        · rintro ⟨h | h, h2⟩
          · subst h; exact ⟨Or.inr (by simp; omega), h2⟩
          · exact ⟨Or.inr (by omega), h2⟩
        · rintro ⟨h | h, h2⟩
          · cases h
          · exact ⟨Or.inr (by omega), h2⟩
      · rw [if_pos hc]
        simp only [List.mem_cons, forall_eq_or_imp]
        constructor
        · intro h; exact absurd h hc
        · rintro ⟨_, h, _⟩; exact h
section
variable (ck : T → Int)
def splP : T → List T × Int
  | 47 :: rest => if rest = [] then ([], 0) else if chkAll ck (spl rest) 0 = 0 then (spl rest, 0) else ([], chkAll ck (spl rest) 0)
  | _ => ([], 8)
def joinP (l : List T) : T × Int := if chkAll ck l 0 = 0 then (47 :: jn l, 0) else ([], chkAll ck l 0)
def clStep (o : Option (List T)) (a : T) : Option (List T) := match o with
  | none => none
  | some l => if a = [] ∨ a = [46] then some l else if a = [46, 46] then (if l = [] then none else some l.dropLast) else some (l ++ [a])
def cleanP (p : T) : T × Int := match (spl p).foldl clStep (some []) with
  | none => ([], 8)
  | some l => joinP ck l
variable {ck}
theorem splP_ok {p : T} (h : (splP ck p).2 = 0) : ∃ rest, p = 47 :: rest ∧ ((rest = [] ∧ (splP ck p).1 = []) ∨ (rest ≠ [] ∧ chkAll ck (spl rest) 0 = 0 ∧ (splP ck p).1 = spl rest)) := by
  unfold splP at *
  split at h
  · rename_i rest
    by_cases hr : rest = []
    · exact ⟨rest, rfl, .inl ⟨hr, by simp [hr]⟩⟩
    · rw [if_neg hr] at h
      by_cases hc : chkAll ck (spl rest) 0 = 0
      · exact ⟨rest, rfl, .inr ⟨hr, hc, by simp [hr, hc]⟩⟩
      · rw [if_neg hc] at h; exact absurd h hc
  · cases h
theorem splP_chk {p : T} (h : (splP ck p).2 = 0) : chkAll ck (splP ck p).1 0 = 0 := by
  obtain ⟨rest, _, ⟨_, e⟩ | ⟨_, hc, e⟩⟩ := splP_ok h
  · rw [e]; rfl
  · rw [e]; exact hc
theorem splP_jn {p : T} (h : (splP ck p).2 = 0) : 47 :: jn (splP ck p).1 = p := by
  obtain ⟨rest, rfl, ⟨hr, e⟩ | ⟨_, _, e⟩⟩ := splP_ok h
  · rw [e, hr]; rfl
  · rw [e, jn_spl]
/-- a path that is split and joined again -/
theorem back_split {p : T} (h : (splP ck p).2 = 0) : joinP ck (splP ck p).1 = (p, 0) := by
  unfold joinP
  rw [if_pos (splP_chk h), splP_jn h]
theorem noslash (hck : CkOk ck) {l : List T} (h : chkAll ck l 0 = 0) : ∀ a ∈ l, 47 ∉ a := fun a ha => (hck a (((chkAll_ok ck l 0).1 h).2 a ha)).1
theorem jn_nil (hck : CkOk ck) {l : List T} (h : chkAll ck l 0 = 0) (he : jn l = []) : l = [] := by
  cases l with
  | nil => rfl
  | cons a l =>
    have ha := (hck a (((chkAll_ok ck _ 0).1 h).2 a (by simp))).2.1
    cases l with
    | nil => exact absurd he ha
    | cons b l => simp [jn] at he
/-- names that are joined and split again -/
theorem back_join (hck : CkOk ck) {l : List T} (h : chkAll ck l 0 = 0) : splP ck (47 :: jn l) = (l, 0) := by
  unfold splP
  by_cases hn : l = []
  · subst hn; simp [jn]
  · have hj : jn l ≠ [] := fun e => hn (jn_nil hck h e)
    simp only [hj, if_false, spl_jn l hn (noslash hck h), h, if_true]
theorem joinP_err {l : List T} (h : (joinP ck l).2 ≠ 0) : (joinP ck l).1 = [] := by
  unfold joinP at *
  split at h
  · exact absurd rfl h
  · rename_i hc; rw [if_neg hc]
theorem joinP_ok {l : List T} (h : (joinP ck l).2 = 0) : chkAll ck l 0 = 0 ∧ (joinP ck l).1 = 47 :: jn l := by
  unfold joinP at *
  split at h
  · rename_i hc; exact ⟨hc, by rw [if_pos hc]⟩
  · rename_i hc; exact absurd h hc
theorem clean_err {p : T} (h : (cleanP ck p).2 ≠ 0) : (cleanP ck p).1 = [] := by
  unfold cleanP at *
  split at h
  · rfl
  · exact joinP_err h
/-- pushing names -/
theorem cl_push (hck : CkOk ck) : ∀ (l m : List T), (∀ a ∈ l, ck a = 0) → l.foldl clStep (some m) = some (m ++ l)
  | [], m, _ => by simp
  | a :: l, m, h => by
    have ha := hck a (h a (by simp))
    rw [List.foldl_cons]
    have : clStep (some m) a = some (m ++ [a]) := by simp [clStep, ha.2.1, ha.2.2.1, ha.2.2.2]
    rw [this, cl_push hck l (m ++ [a]) (fun x hx => h x (by simp [hx]))]
    simp
theorem clean_again (hck : CkOk ck) {p : T} (h : (cleanP ck p).2 = 0) : cleanP ck (cleanP ck p).1 = cleanP ck p := by
  unfold cleanP at h ⊢
  generalize (spl p).foldl clStep (some []) = o at *
  cases o with
  | none => cases h
  | some l =>
    obtain ⟨hc, he⟩ := joinP_ok h
    simp only at *
    rw [he]
    have h2 : (spl (47 :: jn l)).foldl clStep (some []) = some l := by
      rw [spl, if_pos rfl, List.foldl_cons]
      have h0 : clStep (some []) [] = some [] := rfl
      rw [h0]
      by_cases hn : l = []
      · subst hn; rfl
      · rw [spl_jn l hn (noslash hck hc), cl_push hck l [] (((chkAll_ok ck l 0).1 hc).2)]; rfl
    rw [h2]
/-- dots and slashes more -/
theorem clean_dots {r : T} : cleanP ck ([47, 46] ++ (47 :: r) ++ [47, 47, 46]) = cleanP ck (47 :: r) := by
  have h1 : [47, 46] ++ (47 :: r) ++ [47, 47, 46] = ([47, 46] ++ 47 :: r) ++ 47 :: [47, 46] := by simp
  have h2 : spl [47, 46] = [[], [46]] := by decide
  have h3 : spl ([47, 46] ++ (47 :: r) ++ [47, 47, 46]) = [[], [46]] ++ spl r ++ [[], [46]] := by
    rw [h1, spl_append, spl_append, h2]
  have h4 : spl (47 :: r) = [] :: spl r := by rw [spl, if_pos rfl]
  unfold cleanP
  rw [h3, h4]
  have e1 : ∀ o, clStep o [] = o := fun o => by cases o <;> simp [clStep]
  have e2 : ∀ o, clStep o [46] = o := fun o => by cases o <;> simp [clStep]
  simp only [List.foldl_append, List.foldl_cons, List.foldl_nil, e1, e2]
/-- a name that is taken back -/
theorem clean_back (hck : CkOk ck) {p a : T} (ha : ck a = 0) : cleanP ck (p ++ [47] ++ a ++ [47, 46, 46]) = cleanP ck p := by
  have hk := hck a ha
  have h1 : p ++ [47] ++ a ++ [47, 46, 46] = (p ++ 47 :: a) ++ 47 :: [46, 46] := by simp
  have h2 : spl [46, 46] = [[46, 46]] := by decide
  unfold cleanP
  rw [h1, spl_append, spl_append, spl_plain a hk.1, h2]
  simp only [List.foldl_append, List.foldl_cons, List.foldl_nil]
  generalize (spl p).foldl clStep (some []) = o
  cases o with
  | none => rfl
  | some l =>
    have : clStep (some l) a = some (l ++ [a]) := by simp [clStep, hk.2.1, hk.2.2.1, hk.2.2.2]
    rw [this]
    have : clStep (some (l ++ [a])) [46, 46] = some l := by simp [clStep]
    rw [this]
end
open Lib (compareBytes)
theorem u8_tri (a b : UInt8) : a < b ∨ a = b ∨ b < a := by
  rcases Nat.lt_trichotomy a.toNat b.toNat with h | h | h
  · exact .inl (UInt8.lt_iff_toNat_lt.2 h)
  · exact .inr (.inl (UInt8.toNat_inj.1 h))
  · exact .inr (.inr (UInt8.lt_iff_toNat_lt.2 h))
theorem u8_asymm {a b : UInt8} (h : a < b) : ¬ b < a := by
  rw [UInt8.lt_iff_toNat_lt] at *; omega
theorem u8_irrefl (a : UInt8) : ¬ a < a := by rw [UInt8.lt_iff_toNat_lt]; omega
theorem cb_zero : ∀ a b : T, compareBytes a b = 0 ↔ a = b
  | [], [] => by simp [compareBytes]
  | [], _ :: _ => by simp [compareBytes]
  | _ :: _, [] => by simp [compareBytes]
  | x :: a, y :: b => by
    rw [compareBytes]
    rcases u8_tri x y with h | rfl | h
    · rw [if_pos h]
      simp only [List.cons.injEq]
      constructor
      · intro e; omega
      · rintro ⟨rfl, _⟩; exact absurd h (u8_irrefl _)
    · rw [if_neg (u8_irrefl _), if_neg (u8_irrefl _), cb_zero a b]; simp
    · rw [if_neg (u8_asymm h), if_pos h]
      simp only [List.cons.injEq]
      constructor
      · intro e; omega
      · rintro ⟨rfl, _⟩; exact absurd h (u8_irrefl _)
theorem cb_neg : ∀ a b : T, compareBytes b a = - compareBytes a b
  | [], [] => by simp [compareBytes]
  | [], _ :: _ => by simp [compareBytes]
  | _ :: _, [] => by simp [compareBytes]
  | x :: a, y :: b => by
    rw [compareBytes, compareBytes]
    rcases u8_tri x y with h | rfl | h
    · rw [if_pos h, if_neg (u8_asymm h), if_pos h]; rfl
    · simp only [u8_irrefl, if_false]; exact cb_neg a b
    · rw [if_pos h, if_neg (u8_asymm h), if_pos h]
theorem cb_trans : ∀ a b c : T, compareBytes a b < 0 → compareBytes b c < 0 → compareBytes a c < 0
  | [], [], _, h, _ => by simp [compareBytes] at h
  | [], _ :: _, [], _, h => by simp [compareBytes] at h
  | [], _ :: _, _ :: _, _, _ => by simp [compareBytes]
  | _ :: _, [], _, h, _ => by simp [compareBytes] at h
  | _ :: _, _ :: _, [], _, h => by simp [compareBytes] at h
  | x :: a, y :: b, z :: c, h1, h2 => by
    rw [compareBytes] at *
    have l1 : x < y ∨ (x = y ∧ compareBytes a b < 0) := by
      rcases u8_tri x y with h | h | h
      · exact .inl h
      · subst h; rw [if_neg (u8_irrefl _), if_neg (u8_irrefl _)] at h1; exact .inr ⟨rfl, h1⟩
      · rw [if_neg (u8_asymm h), if_pos h] at h1; omega
    have l2 : y < z ∨ (y = z ∧ compareBytes b c < 0) := by
      rcases u8_tri y z with h | h | h
      · exact .inl h
      · subst h; rw [if_neg (u8_irrefl _), if_neg (u8_irrefl _)] at h2; exact .inr ⟨rfl, h2⟩
      · rw [if_neg (u8_asymm h), if_pos h] at h2; omega
    have l3 : x < z ∨ (x = z ∧ compareBytes a c < 0) := by
      rcases l1 with h | ⟨rfl, h⟩ <;> rcases l2 with k | ⟨rfl, k⟩
      · left; rw [UInt8.lt_iff_toNat_lt] at *; omega
      · exact .inl h
      · exact .inl k
      · exact .inr ⟨rfl, cb_trans a b c h k⟩
    rcases l3 with h | ⟨rfl, h⟩
    · rw [if_pos h]; decide
    · rw [if_neg (u8_irrefl _), if_neg (u8_irrefl _)]; exact h
/-- the order of lists of names -/
def cmpL : List T → List T → Int
  | [], [] => 0
  | [], _ :: _ => -1
  | _ :: _, [] => 1
  | a :: l, b :: m => if compareBytes a b ≠ 0 then compareBytes a b else cmpL l m
theorem cmpL_zero : ∀ l m, cmpL l m = 0 ↔ l = m
  | [], [] => by simp [cmpL]
  | [], _ :: _ => by simp [cmpL]
  | _ :: _, [] => by simp [cmpL]
  | a :: l, b :: m => by
    rw [cmpL]
    by_cases h : compareBytes a b = 0
    · rw [if_neg (by simp [h]), cmpL_zero l m]
      rw [(cb_zero a b).1 h]; simp
    · rw [if_pos h]
      constructor
      · intro e; exact absurd e h
      · intro e; injection e with e1 _; exact absurd ((cb_zero a b).2 e1) h
theorem cmpL_neg : ∀ l m, cmpL m l = - cmpL l m
  | [], [] => by simp [cmpL]
  | [], _ :: _ => by simp [cmpL]
  | _ :: _, [] => by simp [cmpL]
  | a :: l, b :: m => by
    rw [cmpL, cmpL, cb_neg a b, cmpL_neg l m]
    by_cases h : compareBytes a b = 0
    · simp [h]
    · simp [h]
theorem cmpL_lt : ∀ (a b : T) (l m : List T), cmpL (a :: l) (b :: m) < 0 ↔ compareBytes a b < 0 ∨ (a = b ∧ cmpL l m < 0) := by
  intro a b l m
  rw [cmpL]
  by_cases h : compareBytes a b = 0
  · rw [if_neg (by simp [h])]
    have e := (cb_zero a b).1 h
    constructor
    · intro k; exact .inr ⟨e, k⟩
    · rintro (k | ⟨_, k⟩)
      · omega
      · exact k
  · rw [if_pos h]
    have hne : a ≠ b := fun e => h ((cb_zero a b).2 e)
    simp [hne]
theorem cmpL_trans : ∀ l m n : List T, cmpL l m < 0 → cmpL m n < 0 → cmpL l n < 0
  | [], [], _, h, _ => by simp [cmpL] at h
  | [], _ :: _, [], _, h => by simp [cmpL] at h
  | [], _ :: _, _ :: _, _, _ => by simp [cmpL]
  | _ :: _, [], _, h, _ => by simp [cmpL] at h
  | _ :: _, _ :: _, [], _, h => by simp [cmpL] at h
  | a :: l, b :: m, c :: n, h1, h2 => by
    rw [cmpL_lt] at *
    rcases h1 with h | ⟨rfl, h⟩ <;> rcases h2 with k | ⟨rfl, k⟩
    · exact .inl (cb_trans _ _ _ h k)
    · exact .inl h
    · exact .inl k
    · exact .inr ⟨rfl, cmpL_trans _ _ _ h k⟩
theorem cmpL_prefix : ∀ (x y : List T), y ≠ [] → cmpL x (x ++ y) < 0
  | [], [], h => absurd rfl h
  | [], _ :: _, _ => by simp [cmpL]
  | a :: x, y, h => by
    rw [List.cons_append, cmpL_lt]
    exact .inr ⟨rfl, cmpL_prefix x y h⟩
/-- what lies between a list and one that it begins begins with it too -/
theorem cmpL_mid : ∀ (x y z : List T), cmpL x y < 0 → cmpL y (x ++ z) < 0 → ∃ u, u ≠ [] ∧ y = x ++ u
  | [], [], _, h, _ => by simp [cmpL] at h
  | [], b :: y, _, _, _ => ⟨b :: y, by simp, rfl⟩
  | _ :: _, [], _, h, _ => by simp [cmpL] at h
  | a :: x, b :: y, z, h1, h2 => by
    rw [List.cons_append] at h2
    rw [cmpL_lt] at *
    rcases h1 with h | ⟨rfl, h⟩
    · rcases h2 with k | ⟨rfl, _⟩
      · rw [cb_neg] at k; omega
      · have := (cb_zero b b).2 rfl; omega
    · rcases h2 with k | ⟨_, k⟩
      · have := (cb_zero a a).2 rfl; omega
      · obtain ⟨u, hu, rfl⟩ := cmpL_mid x y z h k
        exact ⟨u, hu, rfl⟩
section
variable {ck : T → Int}
def lessP (ck : T → Int) (a b : T) : Bool := decide ((splP ck a).2 = 0) && decide ((splP ck b).2 = 0) && decide (cmpL (splP ck a).1 (splP ck b).1 < 0)
def benP (p dir : T) : Bool := decide (p = dir) || decide (dir = [47]) || (dir ++ [47]).isPrefixOf p
theorem splP_inj {a b : T} (ha : (splP ck a).2 = 0) (hb : (splP ck b).2 = 0) (h : (splP ck a).1 = (splP ck b).1) : a = b := by
  rw [← splP_jn ha, ← splP_jn hb, h]
theorem lessP_iff {a b : T} (ha : (splP ck a).2 = 0) (hb : (splP ck b).2 = 0) : lessP ck a b = true ↔ cmpL (splP ck a).1 (splP ck b).1 < 0 := by simp [lessP, ha, hb]
theorem less_tri {a b : T} (ha : (splP ck a).2 = 0) (hb : (splP ck b).2 = 0) : (lessP ck a b == lessP ck b a) = decide (a = b) := by
  have e1 := lessP_iff ha hb
  have e2 := lessP_iff hb ha
  rw [cmpL_neg (splP ck a).1] at e2
  have hz := cmpL_zero (splP ck a).1 (splP ck b).1
  by_cases h : a = b
  · subst h
    simp
  · have hne : cmpL (splP ck a).1 (splP ck b).1 ≠ 0 := fun e => h (splP_inj ha hb (hz.1 e))
    rw [decide_eq_false h]
    cases h1 : lessP ck a b <;> cases h2 : lessP ck b a <;> simp [h1, h2] at e1 e2 ⊢ <;> omega
theorem less_self (a : T) : lessP ck a a = false := by
  by_cases ha : (splP ck a).2 = 0
  · have e1 := lessP_iff ha ha
    rw [(cmpL_zero _ _).2 rfl] at e1
    cases h : lessP ck a a
    · rfl
    · have := e1.1 h; omega
  · simp [lessP, ha]
theorem less_trans {a b c : T} (ha : (splP ck a).2 = 0) (hb : (splP ck b).2 = 0) (hc : (splP ck c).2 = 0) (h1 : lessP ck a b = true) (h2 : lessP ck b c = true) : lessP ck a c = true :=
  (lessP_iff ha hc).2 (cmpL_trans _ _ _ ((lessP_iff ha hb).1 h1) ((lessP_iff hb hc).1 h2))
/-- what lies beneath has the directory's names first -/
theorem ben_names {a b : T} (ha : (splP ck a).2 = 0) (hb : (splP ck b).2 = 0) : benP b a = true ↔ ∃ u, (splP ck b).1 = (splP ck a).1 ++ u := by
  obtain ⟨ra, ea, qa⟩ := splP_ok ha
  obtain ⟨rb, eb, qb⟩ := splP_ok hb
  simp only [benP, Bool.or_eq_true, decide_eq_true_eq, List.isPrefixOf_iff_prefix]
  constructor
  · rintro ((h | h) | h)
    · exact ⟨[], by rw [h]; simp⟩
    · rw [ea] at h
      injection h with _ h
      rcases qa with ⟨_, e⟩ | ⟨hn, _⟩
      · exact ⟨_, by rw [e]; rfl⟩
      · exact absurd h hn
    · obtain ⟨t, ht⟩ := h
      rcases qa with ⟨_, e⟩ | ⟨hn, _, e⟩
      · exact ⟨_, by rw [e]; rfl⟩
      · rw [ea, eb] at ht
        simp only [List.cons_append, List.cons.injEq, true_and, List.append_assoc, List.nil_append] at ht
        rcases qb with ⟨hb0, _⟩ | ⟨_, _, e'⟩
        · rw [hb0] at ht; simp at ht
        · refine ⟨spl t, ?_⟩
          rw [e, e', ← ht, spl_append]
  · rintro ⟨u, hu⟩
    have ja := splP_jn ha
    have jb := splP_jn hb
    by_cases hx : (splP ck a).1 = []
    · rw [hx] at ja
      exact .inl (.inr ja.symm)
    · by_cases hu0 : u = []
      · subst hu0
        rw [List.append_nil] at hu
        exact .inl (.inl (splP_inj hb ha hu))
      · right
        rw [hu, jn_append hx hu0] at jb
        refine ⟨jn u, ?_⟩
        rw [← ja, ← jb]
        simp
theorem ben_less {a b : T} (ha : (splP ck a).2 = 0) (hb : (splP ck b).2 = 0) (h : benP b a = true) (hne : a ≠ b) : lessP ck a b = true := by
  obtain ⟨u, hu⟩ := (ben_names ha hb).1 h
  rw [lessP_iff ha hb, hu]
  apply cmpL_prefix
  rintro rfl
  rw [List.append_nil] at hu
  exact hne (splP_inj ha hb hu.symm)
theorem ben_mid {a b c : T} (ha : (splP ck a).2 = 0) (hb : (splP ck b).2 = 0) (hc : (splP ck c).2 = 0) (h : benP c a = true) (h1 : lessP ck a b = true) (h2 : lessP ck b c = true) : benP b a = true := by
  obtain ⟨u, hu⟩ := (ben_names ha hc).1 h
  rw [lessP_iff ha hb] at h1
  rw [lessP_iff hb hc, hu] at h2
  obtain ⟨v, _, hv⟩ := cmpL_mid _ _ _ h1 h2
  exact (ben_names ha hb).2 ⟨v, hv⟩
end
end Plain
end Go.Proofs.YtpfmfigommmjiaaDoor
