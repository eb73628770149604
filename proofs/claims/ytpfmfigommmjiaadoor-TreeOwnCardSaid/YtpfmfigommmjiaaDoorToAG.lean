/- Joined: TreePlain, NumLib, BytesOwn, Basis. -/
import Derived.Test.YtpfmfigommmjiaaDoorToAF
import Derived.Test.YtpfmfigommmjiaaDoorToAA
import Derived.Lib.TrimByte
import Derived.Lib.Replace
import Derived.Lib.BufferRead
namespace Go.Proofs.YtpfmfigommmjiaaDoor
namespace Plain
open Classical in
/-- a string read: what it is, what is left -/
noncomputable def getT (s : List Nat) : Option (List Nat × List Nat) :=
  if h : ∃ p : List Nat × List Nat, p.1.length ≤ 1024 ∧ s = putT p.1 ++ p.2 then some h.choose else none
theorem putT_parse {l m r u : List Nat} (h : putT l ++ r = putT m ++ u) : l = m ∧ r = u := by
  have e : l = m := by
    rcases List.append_eq_append_iff.1 h with ⟨x, h1, _⟩ | ⟨x, h1, _⟩
    · exact (putT_free m l).1 ⟨x, h1.symm⟩ |>.symm
    · exact (putT_free l m).1 ⟨x, h1.symm⟩
  subst e
  exact ⟨rfl, List.append_cancel_left h⟩
theorem getT_put {l : List Nat} (hl : l.length ≤ 1024) (more : List Nat) : getT (putT l ++ more) = some (l, more) := by
  unfold getT
  have h : ∃ p : List Nat × List Nat, p.1.length ≤ 1024 ∧ putT l ++ more = putT p.1 ++ p.2 := ⟨(l, more), hl, rfl⟩
  rw [dif_pos h]
  obtain ⟨_, h2⟩ := h.choose_spec
  obtain ⟨e1, e2⟩ := putT_parse h2
  congr 1
  exact Prod.ext e1.symm e2.symm
theorem getT_back {s t r : List Nat} (h : getT s = some (t, r)) : t.length ≤ 1024 ∧ s = putT t ++ r := by
  unfold getT at h
  split at h
  · rename_i hx
    injection h with h
    have := hx.choose_spec
    rw [h] at this
    exact this
  · cases h
theorem getT_end {s t : List Nat} {k c : Nat} (h : GTEnd s t k c) : (c = 0 → getT s = some (t, s.drop k)) ∧ (c ≠ 0 → getT s = none) := by
  constructor
  · rintro rfl
    obtain ⟨_, h2, h3⟩ := h.ok
    have := getT_put h3 (s.drop k)
    rwa [h2, List.take_append_drop] at this
  · intro hc
    cases hg : getT s with
    | none => rfl
    | some p =>
      obtain ⟨h1, h2⟩ := getT_back (t := p.1) (r := p.2) hg
      rw [h2] at h
      exact absurd (h.back h1).1 hc
/-- a number not above a greatest one -/
def pNum (most : Nat) (s : List Nat) : Option (Nat × List Nat) :=
  if (getN s).2.2 = 0 ∧ (getN s).1 ≤ most then some ((getN s).1, s.drop (getN s).2.1) else none
theorem pNum_num {most n : Nat} {p : List Nat} (h : Num n p) (hn : n ≤ most) (more : List Nat) : pNum most (p ++ more) = some (n, more) := by
  unfold pNum
  rw [getN_num h more, if_pos ⟨rfl, hn⟩, List.drop_left]
theorem pNum_back {most : Nat} {s t : List Nat} (hs : ∀ c ∈ s, c < 256) {n : Nat} (h : pNum most s = some (n, t)) : n ≤ most ∧ ∃ p, Num n p ∧ s = p ++ t := by
  unfold pNum at h
  split at h
  · rename_i h1
    simp only [Option.some.injEq, Prod.mk.injEq] at h
    obtain ⟨rfl, rfl⟩ := h
    refine ⟨h1.2, s.take (getN s).2.1, (getN_back hs (n := (getN s).1) (k := (getN s).2.1) ?_).2, (List.take_append_drop _ _).symm⟩
    rw [← h1.1]
  · cases h
def pInt (s : List Nat) : Option (Int × List Nat) := if (getI s).2.2 = 0 then some ((getI s).1, s.drop (getI s).2.1) else none
theorem pInt_num {n : Int} {p : List Nat} (h : INum n p) (hn : -9223372036854775808 ≤ n ∧ n ≤ 9223372036854775807) (more : List Nat) : pInt (p ++ more) = some (n, more) := by
  unfold pInt
  rw [getI_num h hn more, if_pos rfl, List.drop_left]
theorem pInt_back {s t : List Nat} (hs : ∀ c ∈ s, c < 256) {n : Int} (h : pInt s = some (n, t)) : (-9223372036854775808 ≤ n ∧ n ≤ 9223372036854775807) ∧ ∃ p, INum n p ∧ s = p ++ t := by
  unfold pInt at h
  split at h
  · rename_i h1
    simp only [Option.some.injEq, Prod.mk.injEq] at h
    obtain ⟨rfl, rfl⟩ := h
    have hb := getI_back hs (n := (getI s).1) (k := (getI s).2.1) (by rw [← h1])
    exact ⟨hb.2.2, s.take (getI s).2.1, hb.2.1, (List.take_append_drop _ _).symm⟩
  · cases h
/-- so many names of eight bytes each -/
def ids (n : Nat) (s : List Nat) : List (List Nat) := (List.range n).map fun i => (s.drop (8 * i)).take 8
theorem ids_length (n : Nat) (s : List Nat) : (ids n s).length = n := by simp [ids]
theorem ids_succ (n : Nat) (s : List Nat) : ids (n + 1) s = ids n s ++ [(s.drop (8 * n)).take 8] := by
  unfold ids
  rw [List.range_succ, List.map_append]
  rfl
theorem ids_flat : ∀ (n : Nat) (s : List Nat), 8 * n ≤ s.length → (ids n s).flatten = s.take (8 * n)
  | 0, s, _ => by simp [ids]
  | n + 1, s, h => by
    rw [ids_succ, List.flatten_append, ids_flat n s (by omega), show 8 * (n + 1) = 8 * n + 8 by omega, List.take_add]
    simp
theorem ids_of : ∀ (l : List (List Nat)) (more : List Nat), (∀ p ∈ l, p.length = 8) → ids l.length (l.flatten ++ more) = l := by
  intro l more hl
  have hlen : ∀ k, k ≤ l.length → ((l.take k).flatten).length = 8 * k := by
    intro k hk
    rw [List.length_flatten]
    have : (l.take k).map List.length = List.replicate k 8 := by
      apply List.ext_getElem
      · simp; omega
      · intro i h1 h2
        simp only [List.length_map, List.length_take] at h1
        simp only [List.getElem_map, List.getElem_take, List.getElem_replicate]
        exact hl _ (List.getElem_mem _)
    rw [this, List.sum_replicate_nat]
    omega
  apply List.ext_getElem
  · rw [ids_length]
  · intro i h1 h2
    simp only [ids, List.getElem_map, List.getElem_range]
    have e : l.flatten = (l.take i).flatten ++ (l[i] ++ (l.drop (i + 1)).flatten) := by
      conv => lhs; rw [← List.take_append_drop i l, List.flatten_append, List.drop_eq_getElem_cons h2, List.flatten_cons]
    rw [e, List.append_assoc, ← hlen i (by omega), List.drop_left, List.append_assoc]
    have h8 := hl _ (List.getElem_mem h2)
    rw [← h8, List.take_left]
def pIds (n : Nat) (s : List Nat) : Option (List (List Nat) × List Nat) := if s.length < 8 * n then none else some (ids n s, s.drop (8 * n))
/-- a node: name, kind, mode, time, size, parts, link -/
abbrev Nd := List Nat × Int × Int × Int × Int × List (List Nat) × List Nat
/-- its bytes -/
def EncN (n : Nd) (f : List Nat) : Prop := ∃ a b c d, Num n.2.2.1.toNat a ∧ INum n.2.2.2.1 b ∧ Num n.2.2.2.2.1.toNat c ∧ Num n.2.2.2.2.2.1.length d ∧ f = putT n.1 ++ (n.2.1.toNat :: (a ++ (b ++ (c ++ (d ++ (n.2.2.2.2.2.1.flatten ++ putT n.2.2.2.2.2.2))))))
/-- what can be written so -/
def NdB (n : Nd) : Prop := n.1.length ≤ 1024 ∧ (0 ≤ n.2.1 ∧ n.2.1 < 256) ∧ (0 ≤ n.2.2.1 ∧ n.2.2.1 ≤ 511) ∧ (-9223372036854775808 ≤ n.2.2.2.1 ∧ n.2.2.2.1 ≤ 9223372036854775807) ∧ (0 ≤ n.2.2.2.2.1 ∧ n.2.2.2.2.1 ≤ 4096) ∧ n.2.2.2.2.2.1.length ≤ 300 ∧ (∀ p ∈ n.2.2.2.2.2.1, p.length = 8) ∧ n.2.2.2.2.2.2.length ≤ 1024
theorem EncN.unique {n : Nd} {f g : List Nat} (h : EncN n f) (k : EncN n g) : f = g := by
  obtain ⟨a, b, c, d, h1, h2, h3, h4, rfl⟩ := h
  obtain ⟨a', b', c', d', k1, k2, k3, k4, rfl⟩ := k
  rw [h1.unique k1, h2.unique k2, h3.unique k3, h4.unique k4]
noncomputable def pNode (s : List Nat) : Option (Nd × List Nat) :=
  match getT s with
  | none => none
  | some (name, s1) => match s1 with
    | [] => none
    | k :: s2 => match pNum 511 s2 with
      | none => none
      | some (mode, s3) => match pInt s3 with
        | none => none
        | some (time, s4) => match pNum 4096 s4 with
          | none => none
          | some (size, s5) => match pNum 300 s5 with
            | none => none
            | some (cnt, s6) => match pIds cnt s6 with
              | none => none
              | some (parts, s7) => match getT s7 with
                | none => none
                | some (link, s8) => some ((name, (k : Int), (mode : Int), time, (size : Int), parts, link), s8)
theorem pNode_enc {n : Nd} {f : List Nat} (h : EncN n f) (hb : NdB n) (more : List Nat) : pNode (f ++ more) = some (n, more) := by
  obtain ⟨name, k, mode, time, size, parts, link⟩ := n
  obtain ⟨a, b, c, d, h1, h2, h3, h4, rfl⟩ := h
  obtain ⟨b1, b2, b3, b4, b5, b6, b7, b8⟩ := hb
  simp only at h1 h2 h3 h4 b1 b2 b3 b4 b5 b6 b7 b8
  have e : putT name ++ (k.toNat :: (a ++ (b ++ (c ++ (d ++ (parts.flatten ++ putT link)))))) ++ more = putT name ++ (k.toNat :: (a ++ (b ++ (c ++ (d ++ (parts.flatten ++ (putT link ++ more))))))) := by simp
  have hf : parts.flatten.length = 8 * parts.length := by
    have := ids_flat parts.length (parts.flatten ++ [])
    have h2 : (parts.map List.length) = List.replicate parts.length 8 := by
      apply List.ext_getElem
      · simp
      · intro i h1 h2
        simp only [List.getElem_map, List.getElem_replicate]
        exact b7 _ (List.getElem_mem _)
    rw [List.length_flatten, h2, List.sum_replicate_nat]
    omega
  have hi : pIds parts.length (parts.flatten ++ (putT link ++ more)) = some (parts, putT link ++ more) := by
    unfold pIds
    rw [if_neg (by rw [List.length_append]; omega), ids_of parts _ b7, ← hf, List.drop_left]
  unfold pNode
  rw [e, getT_put b1]
  simp only
  rw [pNum_num h1 (by omega)]
  simp only
  rw [pInt_num h2 b4]
  simp only
  rw [pNum_num h3 (by omega)]
  simp only
  rw [pNum_num h4 b6]
  simp only
  rw [hi]
  simp only
  rw [getT_put b8]
  simp only [Option.some.injEq, Prod.mk.injEq, true_and, and_true]
  omega
theorem pNode_back {n : Nd} {s r : List Nat} (hs : ∀ c ∈ s, c < 256) (h : pNode s = some (n, r)) : ∃ f, EncN n f ∧ s = f ++ r ∧ NdB n := by
  unfold pNode at h
  split at h
  · cases h
  rename_i name s1 e1
  split at h
  · cases h
  rename_i k s2
  split at h
  · cases h
  rename_i mode s3 e3
  split at h
  · cases h
  rename_i time s4 e4
  split at h
  · cases h
  rename_i size s5 e5
  split at h
  · cases h
  rename_i cnt s6 e6
  split at h
  · cases h
  rename_i parts s7 e7
  split at h
  · cases h
  rename_i link s8 e8
  simp only [Option.some.injEq, Prod.mk.injEq] at h
  obtain ⟨rfl, rfl⟩ := h
  obtain ⟨l1, rfl⟩ := getT_back e1
  have hs1 : ∀ c ∈ k :: s2, c < 256 := fun c hc => hs c (List.mem_append_right _ hc)
  have hk := hs1 k (by simp)
  have hs2 : ∀ c ∈ s2, c < 256 := fun c hc => hs1 c (List.mem_cons_of_mem _ hc)
  obtain ⟨m1, a, ha, rfl⟩ := pNum_back hs2 e3
  have hs3 : ∀ c ∈ s3, c < 256 := fun c hc => hs2 c (List.mem_append_right _ hc)
  obtain ⟨m2, b, hb, rfl⟩ := pInt_back hs3 e4
  have hs4 : ∀ c ∈ s4, c < 256 := fun c hc => hs3 c (List.mem_append_right _ hc)
  obtain ⟨m3, c, hc, rfl⟩ := pNum_back hs4 e5
  have hs5 : ∀ x ∈ s5, x < 256 := fun x hx => hs4 x (List.mem_append_right _ hx)
  obtain ⟨m4, d, hd, rfl⟩ := pNum_back hs5 e6
  unfold pIds at e7
  split at e7
  · cases e7
  rename_i hlen
  simp only [Option.some.injEq, Prod.mk.injEq] at e7
  obtain ⟨rfl, e7⟩ := e7
  obtain ⟨l2, e8'⟩ := getT_back e8
  have hpl : (ids cnt s6).length = cnt := ids_length cnt s6
  have hid8 : ∀ p ∈ ids cnt s6, p.length = 8 := by
    intro p hp
    simp only [ids, List.mem_map, List.mem_range] at hp
    obtain ⟨i, hi, rfl⟩ := hp
    rw [List.length_take, List.length_drop]
    omega
  refine ⟨_, ⟨a, b, c, d, ?_, hb, ?_, ?_, rfl⟩, ?_, l1, ⟨?_, ?_⟩, ⟨?_, ?_⟩, m2, ⟨?_, ?_⟩, ?_, hid8, l2⟩
  · simpa using ha
  · simpa using hc
  · simp only [hpl]; exact hd
  · simp only [ids_flat cnt s6 (by omega)]
    have : s6 = s6.take (8 * cnt) ++ (putT link ++ s8) := by
      conv => lhs; rw [← List.take_append_drop (8 * cnt) s6, e7, e8']
    conv => lhs; rw [this]
    simp
  · simp only; omega
  · simp only; omega
  · simp only; omega
  · simp only; omega
  · simp only; omega
  · simp only; omega
  · simp only [hpl]; exact m4
/-- the bytes of nodes one behind the other -/
inductive EncNs : List Nd → List Nat → Prop
  | nil : EncNs [] []
  | snoc {l : List Nd} {r : Nd} {t f : List Nat} : EncNs l t → EncN r f → EncNs (l ++ [r]) (t ++ f)
/-- so many nodes read -/
inductive RdNs : Nat → List Nat → List Nd → List Nat → Prop
  | nil {s : List Nat} : RdNs 0 s [] s
  | snoc {n : Nat} {s u t : List Nat} {l : List Nd} {r : Nd} : RdNs n s l u → pNode u = some (r, t) → RdNs (n + 1) s (l ++ [r]) t
theorem RdNs.unique {n : Nat} {s t : List Nat} {l : List Nd} (h : RdNs n s l t) : ∀ {m : List Nd} {u : List Nat}, RdNs n s m u → l = m ∧ t = u := by
  induction h with
  | nil => intro m u g; cases g; exact ⟨rfl, rfl⟩
  | snoc _ h2 ih =>
    intro m u g
    cases g with
    | snoc g1 g2 =>
      obtain ⟨rfl, rfl⟩ := ih g1
      rw [h2] at g2
      cases g2
      exact ⟨rfl, rfl⟩
theorem RdNs.length {n : Nat} {s t : List Nat} {l : List Nd} (h : RdNs n s l t) : l.length = n := by
  induction h with
  | nil => rfl
  | snoc _ _ ih => rw [List.length_append, ih]; rfl
theorem EncNs.rds {l : List Nd} {f : List Nat} (h : EncNs l f) : (∀ r ∈ l, NdB r) → ∀ more, RdNs l.length (f ++ more) l more := by
  induction h with
  | nil => intro _ more; exact .nil
  | snoc h1 h2 ih =>
    intro hok more
    rw [List.length_append, List.append_assoc]
    exact .snoc (ih (fun r hr => hok r (List.mem_append_left _ hr)) _) (pNode_enc h2 (hok _ (List.mem_append_right _ (List.mem_singleton.2 rfl))) more)
theorem RdNs.encs {n : Nat} {s t : List Nat} {l : List Nd} (h : RdNs n s l t) : (∀ c ∈ s, c < 256) → ∃ f, EncNs l f ∧ s = f ++ t ∧ ∀ r ∈ l, NdB r := by
  induction h with
  | nil => intro _; exact ⟨[], .nil, rfl, by simp⟩
  | snoc h1 h2 ih =>
    intro hs
    obtain ⟨f, hf, rfl, hr⟩ := ih hs
    obtain ⟨g, hg, rfl, hb⟩ := pNode_back (fun c hc => hs c (List.mem_append_right _ hc)) h2
    refine ⟨f ++ g, hf.snoc hg, by rw [List.append_assoc], fun r hm => ?_⟩
    rcases List.mem_append.1 hm with h | h
    · exact hr r h
    · simp only [List.mem_singleton] at h
      subst h
      exact hb
/-- a part of a reading -/
theorem RdNs.part {n : Nat} {s t : List Nat} {l : List Nd} (h : RdNs n s l t) : ∀ k, k < n → ∃ m u r v, RdNs k s m u ∧ pNode u = some (r, v) := by
  induction h with
  | nil => intro k hk; omega
  | @snoc n s u t l r h1 h2 ih =>
    intro k hk
    rcases Nat.lt_or_ge k n with h | h
    · exact ih k h
    · obtain rfl : k = n := by omega
      exact ⟨l, u, r, t, h1, h2⟩
/-- a directory's text -/
def Tx (l : List Nd) (t : List Nat) : Prop := ∃ a f, Num l.length a ∧ EncNs l f ∧ t = a ++ f
theorem EncNs.unique : ∀ {l : List Nd} {t u : List Nat}, EncNs l t → EncNs l u → t = u := by
  have key : ∀ {m : List Nd} {t : List Nat}, EncNs m t → (m = [] ∧ t = []) ∨ ∃ l r u f, m = l ++ [r] ∧ t = u ++ f ∧ EncNs l u ∧ EncN r f := by
    intro m t h
    cases h with
    | nil => exact .inl ⟨rfl, rfl⟩
    | snoc h1 h2 => exact .inr ⟨_, _, _, _, rfl, rfl, h1, h2⟩
  intro l
  induction hn : l.length generalizing l with
  | zero =>
    intro t u h g
    obtain rfl := List.eq_nil_of_length_eq_zero hn
    rcases key h with ⟨_, rfl⟩ | ⟨x, y, _, _, e, _⟩
    · rcases key g with ⟨_, rfl⟩ | ⟨x, y, _, _, e, _⟩
      · rfl
      · simp at e
    · simp at e
  | succ n ih =>
    intro t u h g
    rcases key h with ⟨rfl, _⟩ | ⟨x, y, a, b, rfl, rfl, h1, h2⟩
    · simp at hn
    · rcases key g with ⟨e, _⟩ | ⟨x', y', a', b', e, rfl, g1, g2⟩
      · simp at e
      · obtain ⟨rfl, e2⟩ := List.append_inj' e rfl
        injection e2 with e2 _
        subst e2
        rw [ih (by simpa using hn) h1 g1, h2.unique g2]
theorem Tx.unique {l : List Nd} {t u : List Nat} (h : Tx l t) (g : Tx l u) : t = u := by
  obtain ⟨a, f, h1, h2, rfl⟩ := h
  obtain ⟨b, k, g1, g2, rfl⟩ := g
  rw [h1.unique g1, h2.unique g2]
/-- a directory read whole -/
def Rd (s : List Nat) (l : List Nd) : Prop := ∃ u, pNum 64 s = some (l.length, u) ∧ RdNs l.length u l []
theorem Tx.rd {l : List Nd} {t : List Nat} (h : Tx l t) (hb : ∀ r ∈ l, NdB r) (hl : l.length ≤ 64) : Rd t l := by
  obtain ⟨a, f, h1, h2, rfl⟩ := h
  have := h2.rds hb []
  rw [List.append_nil] at this
  exact ⟨f, pNum_num h1 hl f, this⟩
theorem Rd.tx {s : List Nat} {l : List Nd} (hs : ∀ c ∈ s, c < 256) (h : Rd s l) : Tx l s := by
  obtain ⟨u, h1, h2⟩ := h
  obtain ⟨_, p, hp, rfl⟩ := pNum_back hs h1
  obtain ⟨f, hf, e, _⟩ := h2.encs (fun c hc => hs c (List.mem_append_right _ hc))
  rw [List.append_nil] at e
  subst e
  exact ⟨p, _, hp, hf, rfl⟩
theorem Rd.unique {s : List Nat} {l m : List Nd} (h : Rd s l) (g : Rd s m) : l = m := by
  obtain ⟨u, h1, h2⟩ := h
  obtain ⟨v, g1, g2⟩ := g
  rw [h1] at g1
  simp only [Option.some.injEq, Prod.mk.injEq] at g1
  obtain ⟨e, rfl⟩ := g1
  rw [← e] at g2
  exact (h2.unique g2).1
end Plain
end Go.Proofs.YtpfmfigommmjiaaDoor
namespace Go.Proofs.YtpfmfigommmjiaaDoor
open Go.RowKit Plain
theorem str_data (l : List Nat) : (strOf l).data.toList = l.map UInt8.ofNat := by simp [strOf]
theorem strip_lib : ∀ l : List Nat, (∀ c ∈ l, c < 256) → Lib.trimLeftB (l.map UInt8.ofNat) 0 = (strip l).map UInt8.ofNat
  | [], _ => rfl
  | 0 :: x, h => by
    have ih := strip_lib x fun c hc => h c (List.mem_cons_of_mem _ hc)
    unfold Lib.trimLeftB at ih ⊢
    rw [List.map_cons, List.dropWhile_cons, if_pos (by decide), ih]
    rfl
  | (a + 1) :: x, h => by
    have ha := h (a + 1) (by simp)
    unfold Lib.trimLeftB
    rw [List.map_cons, List.dropWhile_cons, if_neg]
    · rfl
    · intro e
      have e2 := congrArg UInt8.toNat (beq_iff_eq.1 e)
      rw [UInt8.toNat_ofNat', Nat.mod_eq_of_lt ha] at e2
      exact Nat.succ_ne_zero a e2
theorem trim_str (l : List Nat) (h : ∀ c ∈ l, c < 256) : (⟨(Lib.trimLeftB (strOf l).data.toList 0).toArray⟩ : ByteArray) = strOf (strip l) := by
  rw [str_data, strip_lib l h]
  rfl
theorem index_cons_ne (b c : UInt8) (l : List UInt8) (h : b ≠ c) : Lib.index (b :: l) [c] = if Lib.index l [c] == -1 then -1 else Lib.index l [c] + 1 := by
  have hp : ([c] : List UInt8).isPrefixOf (b :: l) = false := by simp [List.isPrefixOf, Ne.symm h]
  rw [Lib.index, hp]
  simp
theorem index_cons_eq (c : UInt8) (l : List UInt8) : Lib.index (c :: l) [c] = 0 := by
  rw [Lib.index]; simp [List.isPrefixOf]
/-- each c written as r -/
def sub1 (c : UInt8) (r : List UInt8) : List UInt8 → List UInt8
  | [] => []
  | b :: l => if b = c then r ++ sub1 c r l else b :: sub1 c r l
theorem replaceK_cons_ne (c : UInt8) (r : List UInt8) (b : UInt8) (l : List UInt8) (h : b ≠ c) : ∀ k, k = Lib.count l [c] → Lib.replaceK [c] r k (b :: l) = b :: Lib.replaceK [c] r k l
  | 0, _ => rfl
  | k + 1, hk => by
    obtain ⟨i, hi⟩ := Lib.index_of_count (s := l) (old := [c]) (by omega)
    have hi2 : Lib.index (b :: l) [c] = ((i + 1 : Nat) : Int) := by
      rw [index_cons_ne b c l h, hi]
      have : ¬ (((i : Nat) : Int) == -1) = true := fun e => by have := beq_iff_eq.1 e; omega
      rw [if_neg this]
      omega
    rw [Lib.replaceK_hit [c] r k l i hi, Lib.replaceK_hit [c] r k (b :: l) (i + 1) hi2]
    simp
theorem replaceK_sub1 (c : UInt8) (r : List UInt8) : ∀ (l : List UInt8), Lib.replaceK [c] r (Lib.count l [c]) l = sub1 c r l
  | [] => by rw [Lib.count_one]; rfl
  | b :: l => by
    have ih := replaceK_sub1 c r l
    by_cases h : b = c
    · subst h
      rw [Lib.count_cons_eq, Nat.add_comm, Lib.replaceK_hit [b] r _ (b :: l) 0 (index_cons_eq b l)]
      simp only [sub1, if_true, List.take_zero, List.nil_append, List.length_singleton, Nat.zero_add, List.drop_succ_cons, List.drop_zero, ih]
    · rw [Lib.count_cons_ne b c l h, replaceK_cons_ne c r b l h _ rfl, ih]
      simp [sub1, h]
theorem replaceAll_sub1 (c : UInt8) (r : List UInt8) (hr : [c] ≠ r) (l : List UInt8) : Lib.replaceAll l [c] r = sub1 c r l := by
  have hb : ¬ ([c] == r) = true := fun e => hr (beq_iff_eq.1 e)
  rw [Lib.replaceAll, Lib.replace, if_neg hb, ← replaceK_sub1 c r l]
  congr 1
theorem sub1_esc : ∀ l : List Nat, (∀ c ∈ l, c < 256) → sub1 0 [0, 255] (l.map UInt8.ofNat) = (esc l).map UInt8.ofNat
  | [], _ => rfl
  | 0 :: x, h => by
    have ih := sub1_esc x fun c hc => h c (List.mem_cons_of_mem _ hc)
    rw [List.map_cons, sub1, if_pos (by decide), ih]
    rfl
  | (a + 1) :: x, h => by
    have ih := sub1_esc x fun c hc => h c (List.mem_cons_of_mem _ hc)
    have ha := h (a + 1) (by simp)
    rw [List.map_cons, sub1, if_neg, ih]
    · rfl
    · intro e
      have e2 := congrArg UInt8.toNat e
      rw [UInt8.toNat_ofNat', Nat.mod_eq_of_lt ha] at e2
      exact Nat.succ_ne_zero a e2
theorem strN_data (s : ByteArray) : s.data.toList = (strN s).map UInt8.ofNat := by
  rw [← str_data, strOf_strN]
theorem esc_str (s : ByteArray) : (⟨(Lib.replaceAll s.data.toList [0] [0, 255]).toArray⟩ : ByteArray) = strOf (esc (strN s)) := by
  rw [replaceAll_sub1 0 [0, 255] (by decide), strN_data, sub1_esc _ (strN_lt s)]
  rfl
end Go.Proofs.YtpfmfigommmjiaaDoor
namespace Go.Proofs.YtpfmfigommmjiaaDoor
open Go.RowKit
theorem byte_get (s : ByteArray) (k : Nat) (h : k < s.size) : (s[k]).toNat = (strN s).getD k 0 := by
  rw [← strN_getD, List.getD_eq_getElem?_getD, List.getElem?_eq_getElem (by rw [Array.length_toList]; exact h)]
  rfl
/-- 'string(b)' of bytes of the call's own, nil let in -/
theorem run_string_own {P : Program} (w : World) (src e dst : TypeId) (hs : P.underlying src = some (.slice e)) (he : P.underlying e = some (.int .u8)) (hd : P.underlying dst = some .string) {base : Nat} {v : Value} {l : List Nat} (hl : ∀ c ∈ l, c < 256)
    (h : w.ownsRow base e 1 v l.length (l.map bV)) : (convert src dst v).run P w = .ok (.string (strOf l)) w := by
  rcases h.2 with ⟨rfl, h0⟩ | ⟨g, cap, cur, rfl, hb, hg, h3, h4, h5, h6⟩
  · obtain rfl := List.eq_nil_of_length_eq_zero h0
    exact Lib.run_convert_nil_bytes (P := P) w src dst e 0 hs he hd
  · have hbytes : Lib.Bytes w g 0 (strOf l) := by
      intro i hi
      rw [strOf_size] at hi
      rw [Nat.zero_add, cell_of_row _ _ _ _ _ _ hg]
      have h7 : (cur.toList.take (l.length * 1))[i]? = (l.map bV)[i]? := by rw [h6]
      rw [List.getElem?_take, if_pos (by omega), List.getElem?_map, List.getElem?_eq_getElem hi] at h7
      rw [← Array.getElem?_toList, h7]
      have hlt := hl _ (List.getElem_mem hi)
      have hb : ((strOf l)[i]'(by rw [strOf_size]; exact hi)).toNat = l[i] := by
        rw [byte_get, strN_strOf l hl, List.getD_eq_getElem?_getD, List.getElem?_eq_getElem hi]
        rfl
      rw [hb]
      rfl
    have := Lib.run_convert_whole (P := P) w src e dst hs he hd g 0 (strOf l) hbytes cap
    rwa [strOf_size] at this
end Go.Proofs.YtpfmfigommmjiaaDoor
namespace Go.Proofs.YtpfmfigommmjiaaDoor.Plain
def Lin (f : Nat → Nat) : Prop := ∀ a b, f (a ^^^ b) = f a ^^^ f b
theorem Lin.zero {f : Nat → Nat} (h : Lin f) : f 0 = 0 := by
  have := h 0 0
  simpa using this
theorem Lin.comp {f g : Nat → Nat} (hf : Lin f) (hg : Lin g) : Lin (fun x => f (g x)) := fun a b => by
  show f (g (a ^^^ b)) = _
  rw [hg, hf]
theorem Lin.xor {f g : Nat → Nat} (hf : Lin f) (hg : Lin g) : Lin (fun x => f x ^^^ g x) := fun a b => by
  show f (a ^^^ b) ^^^ g (a ^^^ b) = (f a ^^^ g a) ^^^ (f b ^^^ g b)
  rw [hf, hg]
  ac_rfl
theorem Lin.id : Lin (fun x => x) := fun _ _ => rfl
theorem Lin.shl (i : Nat) : Lin (fun x => x <<< i) := fun _ _ => Nat.shiftLeft_xor_distrib
theorem Lin.shr (i : Nat) : Lin (fun x => x >>> i) := fun _ _ => Nat.shiftRight_xor_distrib
theorem Lin.bit (i c : Nat) : Lin (fun x => bif x.testBit i then c else 0) := fun a b => by
  show (bif (a ^^^ b).testBit i then c else 0) = (bif a.testBit i then c else 0) ^^^ (bif b.testBit i then c else 0)
  rw [Nat.testBit_xor]
  cases a.testBit i <;> cases b.testBit i <;> simp
theorem xor_top {a n : Nat} (h : a < 2 ^ (n + 1)) (ht : a.testBit n = true) : a ^^^ 2 ^ n < 2 ^ n := by
  apply Nat.lt_pow_two_of_testBit
  intro i hi
  rw [Nat.testBit_xor]
  by_cases e : i = n
  · subst e; simp [ht]
  · have h1 : a.testBit i = false := Nat.testBit_lt_two_pow (Nat.lt_of_lt_of_le h (Nat.pow_le_pow_right (by omega) (by omega)))
    rw [h1, Nat.testBit_two_pow]
    simp; omega
theorem lt_of_top {a n : Nat} (h : a < 2 ^ (n + 1)) (ht : a.testBit n = false) : a < 2 ^ n := by
  apply Nat.lt_pow_two_of_testBit
  intro i hi
  by_cases e : i = n
  · subst e; exact ht
  · exact Nat.testBit_lt_two_pow (Nat.lt_of_lt_of_le h (Nat.pow_le_pow_right (by omega) (by omega)))
theorem lin_ext {f g : Nat → Nat} (hf : Lin f) (hg : Lin g) : ∀ n, (∀ i, i < n → f (2 ^ i) = g (2 ^ i)) → ∀ a, a < 2 ^ n → f a = g a := by
  intro n
  induction n with
  | zero =>
    intro _ a ha
    have : a = 0 := by omega
    rw [this, hf.zero, hg.zero]
  | succ n ih =>
    intro h a ha
    cases ht : a.testBit n with
    | false => exact ih (fun i hi => h i (by omega)) a (lt_of_top ha ht)
    | true =>
      have e : a = (a ^^^ 2 ^ n) ^^^ 2 ^ n := by rw [Nat.xor_assoc, Nat.xor_self, Nat.xor_zero]
      rw [e, hf, hg, h n (by omega), ih (fun i hi => h i (by omega)) _ (xor_top ha ht)]
end Go.Proofs.YtpfmfigommmjiaaDoor.Plain
