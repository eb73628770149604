/- Joined: NamesPlain. -/
import Derived.Lib.Bytealg
import Derived.Lib.Join
namespace Go.Proofs.YtbfoonfbhebhfaaGreatDoor
namespace Plain
abbrev T := List UInt8
def spl : T → List T
 | [] => [[]]
 | c :: l => if c = 47 then [] :: spl l else match spl l with
  | [] => [[c]]
  | h :: t => (c :: h) :: t
def jn : List T → T
 | [] => []
 | [a] => a
 | a :: b :: l => a ++ 47 :: jn (b :: l)
theorem spl_ne : ∀ s, spl s ≠ []
 | [] => by simp [spl]
 | c :: l => by
  rw [spl]; split
  ·
   simp
  ·
   split <;> simp
theorem spl_cons_other {c : UInt8} (h : c ≠ 47) (l : T) : ∃ a t, spl l = a :: t ∧ spl (c :: l) = (c :: a) :: t := by
 cases e : spl l with
 | nil => exact absurd e (spl_ne l)
 | cons a t => exact ⟨a, t, rfl, by rw [spl, if_neg h, e]⟩
theorem jn_cons (a : T) {l : List T} (h : l ≠ []) : jn (a :: l) = a ++ 47 :: jn l := by
 cases l with
 | nil => exact absurd rfl h
 | cons b l => rfl
theorem jn_spl : ∀ s, jn (spl s) = s
 | [] => rfl
 | c :: l => by
  by_cases h : c = 47
  ·
   subst h
   rw [spl, if_pos rfl, jn_cons _ (spl_ne l), jn_spl l]; rfl
  ·
   obtain ⟨a, t, h1, h2⟩ := spl_cons_other h l
   have ih := jn_spl l
   rw [h1] at ih
   rw [h2]
   cases t with
   | nil => simp only [jn] at *; rw [ih]
   | cons b t => simp only [jn, List.cons_append] at *; rw [ih]
theorem spl_append : ∀ s t, spl (s ++ 47 :: t) = spl s ++ spl t
 | [], t => by simp [spl]
 | c :: l, t => by
  have ih := spl_append l t
  by_cases h : c = 47
  ·
   subst h
   rw [List.cons_append, spl, if_pos rfl, ih, spl, if_pos rfl]; rfl
  ·
   obtain ⟨a, u, h1, h2⟩ := spl_cons_other h l
   rw [h1] at ih
   rw [h2, List.cons_append, spl, if_neg h, ih]; rfl
theorem spl_plain : ∀ a : T, 47 ∉ a → spl a = [a]
 | [], _ => rfl
 | c :: l, h => by
  have hc : c ≠ 47 := fun e => h (by simp [e])
  rw [spl, if_neg hc, spl_plain l (fun e => h (by simp [e]))]
theorem spl_jn : ∀ l : List T, l ≠ [] → (∀ a ∈ l, 47 ∉ a) → spl (jn l) = l
 | [], h, _ => absurd rfl h
 | [a], _, ha => spl_plain a (ha a (by simp))
 | a :: b :: l, _, ha => by
  rw [jn_cons a (by simp), spl_append, spl_plain a (ha a (by simp)), spl_jn (b :: l) (by simp) (fun x hx => ha x (by simp [hx]))]; rfl
def CkOk (ck : T → Int) : Prop := ∀ a, ck a = 0 → 47 ∉ a ∧ a ≠ [] ∧ a ≠ [46] ∧ a ≠ [46, 46]
def chkAll (ck : T → Int) : List T → Nat → Int
 | [], _ => 0
 | a :: l, i => if 8 ≤ i then 14 else if ck a ≠ 0 then ck a else chkAll ck l (i + 1)
theorem chkAll_ok (ck : T → Int) : ∀ (l : List T) (i : Nat), chkAll ck l i = 0 ↔ (l = [] ∨ i + l.length ≤ 8) ∧ ∀ a ∈ l, ck a = 0
 | [], i => by simp [chkAll]
 | a :: l, i => by
  rw [chkAll]
  by_cases h8 : 8 ≤ i
  ·
   rw [if_pos h8]
   constructor
   ·
    intro h; omega
   ·
    rintro ⟨h | h, _⟩
    ·
     cases h
    ·
     simp at h; omega
  ·
   rw [if_neg h8]
   by_cases hc : ck a = 0
   ·
    rw [if_neg (by simp [hc]), chkAll_ok ck l (i + 1)]
    simp only [List.mem_cons, forall_eq_or_imp, hc, true_and, List.length_cons]
    constructor
    ·
     rintro ⟨h | h, h2⟩
     ·
      subst h; exact ⟨Or.inr (by simp; omega), h2⟩
     ·
      exact ⟨Or.inr (by omega), h2⟩
    ·
     rintro ⟨h | h, h2⟩
     ·
      cases h
     ·
      exact ⟨Or.inr (by omega), h2⟩
   ·
    rw [if_pos hc]
    simp only [List.mem_cons, forall_eq_or_imp]
    constructor
    ·
     intro h; exact absurd h hc
    ·
     rintro ⟨_, h, _⟩; exact h
section
variable (ck : T → Int)
def splP : T → List T × Int
 | 47 :: rest => if rest = [] then ([], 0) else if chkAll ck (spl rest) 0 = 0 then (spl rest, 0) else ([], chkAll ck (spl rest) 0)
 | _ => ([], 8)
variable {ck}
theorem splP_ok {p : T} (h : (splP ck p).2 = 0) : ∃ rest, p = 47 :: rest ∧ ((rest = [] ∧ (splP ck p).1 = []) ∨ (rest ≠ [] ∧ chkAll ck (spl rest) 0 = 0 ∧ (splP ck p).1 = spl rest)) := by
 unfold splP at *
 split at h
 ·
  rename_i rest
  by_cases hr : rest = []
  ·
   exact ⟨rest, rfl, .inl ⟨hr, by simp [hr]⟩⟩
  ·
   rw [if_neg hr] at h
   by_cases hc : chkAll ck (spl rest) 0 = 0
   ·
    exact ⟨rest, rfl, .inr ⟨hr, hc, by simp [hr, hc]⟩⟩
   ·
    rw [if_neg hc] at h; exact absurd h hc
 ·
  cases h
theorem splP_chk {p : T} (h : (splP ck p).2 = 0) : chkAll ck (splP ck p).1 0 = 0 := by
 obtain ⟨rest, _, ⟨_, e⟩ | ⟨_, hc, e⟩⟩ := splP_ok h
 ·
  rw [e]; rfl
 ·
  rw [e]; exact hc
theorem splP_jn {p : T} (h : (splP ck p).2 = 0) : 47 :: jn (splP ck p).1 = p := by
 obtain ⟨rest, rfl, ⟨hr, e⟩ | ⟨_, _, e⟩⟩ := splP_ok h
 ·
  rw [e, hr]; rfl
 ·
  rw [e, jn_spl]
theorem noslash (hck : CkOk ck) {l : List T} (h : chkAll ck l 0 = 0) : ∀ a ∈ l, 47 ∉ a := fun a ha => (hck a (((chkAll_ok ck l 0).1 h).2 a ha)).1
theorem jn_nil (hck : CkOk ck) {l : List T} (h : chkAll ck l 0 = 0) (he : jn l = []) : l = [] := by
 cases l with
 | nil => rfl
 | cons a l =>
  have ha := (hck a (((chkAll_ok ck _ 0).1 h).2 a (by simp))).2.1
  cases l with
  | nil => exact absurd he ha
  | cons b l => simp [jn] at he
theorem back_join (hck : CkOk ck) {l : List T} (h : chkAll ck l 0 = 0) : splP ck (47 :: jn l) = (l, 0) := by
 unfold splP
 by_cases hn : l = []
 ·
  subst hn; simp [jn]
 ·
  have hj : jn l ≠ [] := fun e => hn (jn_nil hck h e)
  simp only [hj, if_false, spl_jn l hn (noslash hck h), h, if_true]
end
open Lib (compareBytes)
theorem u8_tri (a b : UInt8) : a < b ∨ a = b ∨ b < a := by
 rcases Nat.lt_trichotomy a.toNat b.toNat with h | h | h
 ·
  exact .inl (UInt8.lt_iff_toNat_lt.2 h)
 ·
  exact .inr (.inl (UInt8.toNat_inj.1 h))
 ·
  exact .inr (.inr (UInt8.lt_iff_toNat_lt.2 h))
theorem u8_asymm {a b : UInt8} (h : a < b) : ¬ b < a := by
 rw [UInt8.lt_iff_toNat_lt] at *; omega
theorem u8_irrefl (a : UInt8) : ¬ a < a := by rw [UInt8.lt_iff_toNat_lt]; omega
theorem cb_zero : ∀ a b : T, compareBytes a b = 0 ↔ a = b
 | [], [] => by simp [compareBytes]
 | [], _ :: _ => by simp [compareBytes]
 | _ :: _, [] => by simp [compareBytes]
 | x :: a, y :: b => by
  rw [compareBytes]
  rcases u8_tri x y with h | rfl | h
  ·
   rw [if_pos h]
   simp only [List.cons.injEq]
   constructor
   ·
    intro e; omega
   ·
    rintro ⟨rfl, _⟩; exact absurd h (u8_irrefl _)
  ·
   rw [if_neg (u8_irrefl _), if_neg (u8_irrefl _), cb_zero a b]; simp
  ·
   rw [if_neg (u8_asymm h), if_pos h]
   simp only [List.cons.injEq]
   constructor
   ·
    intro e; omega
   ·
    rintro ⟨rfl, _⟩; exact absurd h (u8_irrefl _)
theorem cb_neg : ∀ a b : T, compareBytes b a = - compareBytes a b
 | [], [] => by simp [compareBytes]
 | [], _ :: _ => by simp [compareBytes]
 | _ :: _, [] => by simp [compareBytes]
 | x :: a, y :: b => by
  rw [compareBytes, compareBytes]
  rcases u8_tri x y with h | rfl | h
  ·
   rw [if_pos h, if_neg (u8_asymm h), if_pos h]; rfl
  ·
   simp only [u8_irrefl, if_false]; exact cb_neg a b
  ·
   rw [if_pos h, if_neg (u8_asymm h), if_pos h]
theorem cb_trans : ∀ a b c : T, compareBytes a b < 0 → compareBytes b c < 0 → compareBytes a c < 0
 | [], [], _, h, _ => by simp [compareBytes] at h
 | [], _ :: _, [], _, h => by simp [compareBytes] at h
 | [], _ :: _, _ :: _, _, _ => by simp [compareBytes]
 | _ :: _, [], _, h, _ => by simp [compareBytes] at h
 | _ :: _, _ :: _, [], _, h => by simp [compareBytes] at h
 | x :: a, y :: b, z :: c, h1, h2 => by
  rw [compareBytes] at *
  have l1 : x < y ∨ (x = y ∧ compareBytes a b < 0) := by
   rcases u8_tri x y with h | h | h
   ·
    exact .inl h
   ·
    subst h; rw [if_neg (u8_irrefl _), if_neg (u8_irrefl _)] at h1; exact .inr ⟨rfl, h1⟩
   ·
    rw [if_neg (u8_asymm h), if_pos h] at h1; omega
  have l2 : y < z ∨ (y = z ∧ compareBytes b c < 0) := by
   rcases u8_tri y z with h | h | h
   ·
    exact .inl h
   ·
    subst h; rw [if_neg (u8_irrefl _), if_neg (u8_irrefl _)] at h2; exact .inr ⟨rfl, h2⟩
   ·
    rw [if_neg (u8_asymm h), if_pos h] at h2; omega
  have l3 : x < z ∨ (x = z ∧ compareBytes a c < 0) := by
   rcases l1 with h | ⟨rfl, h⟩ <;> rcases l2 with k | ⟨rfl, k⟩
   ·
    left; rw [UInt8.lt_iff_toNat_lt] at *; omega
   ·
    exact .inl h
   ·
    exact .inl k
   ·
    exact .inr ⟨rfl, cb_trans a b c h k⟩
  rcases l3 with h | ⟨rfl, h⟩
  ·
   rw [if_pos h]; decide
  ·
   rw [if_neg (u8_irrefl _), if_neg (u8_irrefl _)]; exact h
def cmpL : List T → List T → Int
 | [], [] => 0
 | [], _ :: _ => -1
 | _ :: _, [] => 1
 | a :: l, b :: m => if compareBytes a b ≠ 0 then compareBytes a b else cmpL l m
theorem cmpL_zero : ∀ l m, cmpL l m = 0 ↔ l = m
 | [], [] => by simp [cmpL]
 | [], _ :: _ => by simp [cmpL]
 | _ :: _, [] => by simp [cmpL]
 | a :: l, b :: m => by
  rw [cmpL]
  by_cases h : compareBytes a b = 0
  ·
   rw [if_neg (by simp [h]), cmpL_zero l m]
   rw [(cb_zero a b).1 h]; simp
  ·
   rw [if_pos h]
   constructor
   ·
    intro e; exact absurd e h
   ·
    intro e; injection e with e1 _; exact absurd ((cb_zero a b).2 e1) h
theorem cmpL_neg : ∀ l m, cmpL m l = - cmpL l m
 | [], [] => by simp [cmpL]
 | [], _ :: _ => by simp [cmpL]
 | _ :: _, [] => by simp [cmpL]
 | a :: l, b :: m => by
  rw [cmpL, cmpL, cb_neg a b, cmpL_neg l m]
  by_cases h : compareBytes a b = 0
  ·
   simp [h]
  ·
   simp [h]
theorem cmpL_lt : ∀ (a b : T) (l m : List T), cmpL (a :: l) (b :: m) < 0 ↔ compareBytes a b < 0 ∨ (a = b ∧ cmpL l m < 0) := by
 intro a b l m
 rw [cmpL]
 by_cases h : compareBytes a b = 0
 ·
  rw [if_neg (by simp [h])]
  have e := (cb_zero a b).1 h
  constructor
  ·
   intro k; exact .inr ⟨e, k⟩
  ·
   rintro (k | ⟨_, k⟩)
   ·
    omega
   ·
    exact k
 ·
  rw [if_pos h]
  have hne : a ≠ b := fun e => h ((cb_zero a b).2 e)
  simp [hne]
theorem cmpL_trans : ∀ l m n : List T, cmpL l m < 0 → cmpL m n < 0 → cmpL l n < 0
 | [], [], _, h, _ => by simp [cmpL] at h
 | [], _ :: _, [], _, h => by simp [cmpL] at h
 | [], _ :: _, _ :: _, _, _ => by simp [cmpL]
 | _ :: _, [], _, h, _ => by simp [cmpL] at h
 | _ :: _, _ :: _, [], _, h => by simp [cmpL] at h
 | a :: l, b :: m, c :: n, h1, h2 => by
  rw [cmpL_lt] at *
  rcases h1 with h | ⟨rfl, h⟩ <;> rcases h2 with k | ⟨rfl, k⟩
  ·
   exact .inl (cb_trans _ _ _ h k)
  ·
   exact .inl h
  ·
   exact .inl k
  ·
   exact .inr ⟨rfl, cmpL_trans _ _ _ h k⟩
theorem cmpL_prefix : ∀ (x y : List T), y ≠ [] → cmpL x (x ++ y) < 0
 | [], [], h => absurd rfl h
 | [], _ :: _, _ => by simp [cmpL]
 | a :: x, y, h => by
  rw [List.cons_append, cmpL_lt]
  exact .inr ⟨rfl, cmpL_prefix x y h⟩
section
variable {ck : T → Int}
end
end Plain
end Go.Proofs.YtbfoonfbhebhfaaGreatDoor
