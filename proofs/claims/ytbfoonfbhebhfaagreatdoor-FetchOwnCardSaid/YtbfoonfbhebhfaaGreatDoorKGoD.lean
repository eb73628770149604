/- Joined: IdMapS, WalkReap1. -/
import Derived.Test.YtbfoonfbhebhfaaGreatDoorKGnY
import Derived.Test.YtbfoonfbhebhfaaGreatDoorKGoC
namespace Go.Proofs.YtbfoonfbhebhfaaGreatDoor
open Go.RowKit Plain Go.ChangeMaps
set_option linter.unusedVariables false
set_option linter.unusedSimpArgs false
theorem sameBits_byte (n : Nat) (c : Nat) : Instr.sameBits n (bV c) (bV c) = true := by
 unfold bV
 cases n <;> simp [Instr.sameBits]
theorem sameBits_id (n : Nat) (k : List Nat) : Instr.sameBits (n + 1) (.agg (bC k)) (.agg (bC k)) = true := by
 rw [Instr.sameBits]
 simp only [beq_self_eq_true, Bool.true_and, List.all_eq_true]
 rintro ⟨x, y⟩ h
 have hx : x = y ∧ x ∈ (bC k).toList := by
  have key : ∀ l : List Value, (x, y) ∈ l.zip l → x = y ∧ x ∈ l := by
   intro l
   induction l with
   | nil => intro h; simp at h
   | cons a l ih =>
    intro h
    rw [List.zip_cons_cons] at h
    rcases List.mem_cons.1 h with h | h
    ·
     injection h with h1 h2
     exact ⟨h1.trans h2.symm, by rw [h1]; simp⟩
    ·
     obtain ⟨h1, h2⟩ := ih h
     exact ⟨h1, List.mem_cons_of_mem _ h2⟩
  exact key _ h
 obtain ⟨rfl, hm⟩ := hx
 have : ∃ c, x = bV c := by
  unfold bC at hm
  rw [List.mem_map] at hm
  obtain ⟨c, _, rfl⟩ := hm
  exact ⟨c, rfl⟩
 obtain ⟨c, rfl⟩ := this
 exact sameBits_byte n c
section
variable {α : Type} (vf : α → Value)
set_option maxRecDepth 100000 in
set_option maxRecDepth 100000 in
theorem find_at8 (w : World) (k : List Nat) (hk : k.length = 8) (x : α) : ∀ (l : List ((List Nat × α) × Nat)) (i : Nat), (∀ p ∈ l, p.1.1.length = 8) → ilk (l.map (·.1)) k = some x →
  ∃ (j : Nat) (b : Nat), (Instr.findAsking 30 (.agg (bC k)) (l.map (ieM vf)) i).run Tryz.prog w = .ok (some (i + j, vf x)) w ∧ l[j]? = some ((k, x), b)
 | [], i, _, h => by cases h
 | p :: l, i, hp, h => by
  have hp0 := hp p (by simp)
  have he := equal_id8 w k p.1.1 hk hp0
  by_cases e : k = p.1.1
  ·
   rw [decide_eq_true e] at he
   have hx : p.1.2 = x := by
    unfold ilk at h
    rw [List.map_cons, List.find?_cons_of_pos (by simp [e])] at h
    injection h
   refine ⟨0, p.2, ?_, ?_⟩
   ·
    simp only [List.map_cons, Instr.findAsking, Sem.run_bind, ieM, he, Result.andThen_ok, if_true, Sem.run_pure, hx, Nat.add_zero]
   ·
    obtain ⟨⟨a, b⟩, c⟩ := p
    simp only at e hx
    subst e hx
    rfl
  ·
   rw [decide_eq_false e] at he
   have hl : ilk (l.map (·.1)) k = some x := by
    unfold ilk at h ⊢
    rw [List.map_cons, List.find?_cons_of_neg (by simp; exact fun h => e h.symm)] at h
    exact h
   obtain ⟨j, b, h1, h2⟩ := find_at8 w k hk x l (i + 1) (fun q hq => hp q (by simp [hq])) hl
   refine ⟨j + 1, b, ?_, ?_⟩
   ·
    simp only [List.map_cons, Instr.findAsking, Sem.run_bind, ieM, he, Result.andThen_ok, Bool.false_eq_true, if_false]
    have h1' : (Instr.findAsking 30 (.agg (bC k)) (l.map (ieM vf)) (i + 1)).run Tryz.prog w = .ok (some (i + (j + 1), vf x)) w := by rw [h1]; congr 3; omega
    exact h1'
   ·
    rw [List.getElem?_cons_succ]; exact h2
theorem put_id8_same {w : World} {b : Nat} {mt et : TypeId} {es : List (List Nat × α)} (hm : Tryz.prog.underlying mt = some (.map 30 et)) (hb : w.heap[b]? = some (imO vf es)) (k : List Nat) (v : α) (hk : k.length = 8) (hes : ∀ e ∈ es, e.1.length = 8) (hs : ilk es k = some v) :
  (Instr.mapUpdate mt (.map (some b)) (.agg (bC k)) (vf v)).run Tryz.prog w = .ok () (setBlock w b (imO vf es)) := by
 have hq := run_findKey_eq (P := Tryz.prog) (w := w) (k := 30) (by rw [Tryz.underlying30]) (.agg (bC k)) (imE vf es).toList
 obtain ⟨j, bn, h1, h2⟩ := find_at8 vf w k hk v es.zipIdx 0 (fun p hp => by
  have h1 : p.1 ∈ es.zipIdx.map (·.1) := List.mem_map.2 ⟨p, hp, rfl⟩
  rw [zip_fstI] at h1
  exact hes _ h1) (by rw [zip_fstI]; exact hs)
 rw [Nat.zero_add] at h1
 have h3 : (imE vf es)[j]? = some { key := .agg (bC k), val := vf v, born := bn } := by
  unfold imE
  rw [List.getElem?_toArray, List.getElem?_map, h2]
  rfl
 have hg := MapKept.run_getObj_map (P := Tryz.prog) hb
 have hso := MapKept.run_setObj_map (P := Tryz.prog) (imO vf es) hb
 have hmod : (imE vf es).modify j (fun e => { e with key := .agg (bC k), val := vf v }) = imE vf es := by
  apply Array.ext_getElem?
  intro i
  rw [Array.getElem?_modify]
  by_cases e : j = i
  ·
   subst e
   rw [if_pos rfl, h3]
   rfl
  ·
   rw [if_neg e]
 have hstay : (Instr.keyThatStays (.agg (bC k)) (.agg (bC k))).run Tryz.prog w = .ok (.agg (bC k)) w := by
  unfold Instr.keyThatStays
  rw [if_pos (sameBits_id 9999 k)]
  rfl
 unfold Instr.mapUpdate
 have hfk : (Instr.findKey 30 (.agg (bC k)) (imE vf es).toList).run Tryz.prog w = .ok (some (j, vf v)) w := hq.trans h1
 simp only [Sem.run_bind, run_underlying hm, hg, Result.andThen_ok, checkKey_id8 w _ k hk, hfk, h3, Option.map_some, Option.getD_some, hstay, hmod]
 exact hso
end
end Go.Proofs.YtbfoonfbhebhfaaGreatDoor
namespace Go.Proofs.YtbfoonfbhebhfaaGreatDoor
open Go.RowKit Plain Go.Maps Go.ChangeMaps
set_option linter.unusedVariables false
set_option linter.unusedSimpArgs false
theorem rdir_any {w0 : World} (hT : Tabs w0) {base R H : Nat} (hb0 : w0.heap.size ≤ base) {es : List (List Nat × Bl)} (hes : ∀ e ∈ es, e.1.length = 8) : ∀ (n : Nat) (k : KT) (b0 b1 b2 b3 b4 b5 b6 b7 : Nat) (l : List It), n + k.length = 8 → (pthB k).size ≤ 100 * k.length → TellsW (ilk es) n k [b0, b1, b2, b3, b4, b5, b6, b7] l → ∀ (out : List It) (oa : Option Addr) (oc : Nat) (w : World), RS base R H es out oa oc w → Below w0.heap.size w0 w → out.length + l.length ≤ 100 →
  Calls Tryz.prog 56 #[.pointer (some ⟨R, 0, none⟩), .agg #[.int .u8 (b0 : Int), .int .u8 (b1 : Int), .int .u8 (b2 : Int), .int .u8 (b3 : Int), .int .u8 (b4 : Int), .int .u8 (b5 : Int), .int .u8 (b6 : Int), .int .u8 (b7 : Int)], .string (pthB k), .int .i64 (k.length : Int)] w (RdEnd base R H es (out ++ l) (obk oa) w) := by
 intro n
 induction n with
 | zero =>
  intro k b0 b1 b2 b3 b4 b5 b6 b7 l hn hz ht out oa oc w hrs hbw hlen
  obtain ⟨rfl, t, hB, hro⟩ := ht
  exact rdir_step hT hb0 hes k b0 b1 b2 b3 b4 b5 b6 b7 [] t [] (fun _ _ _ => False) hB hro .nil (by omega) (fun _ => rfl) hz out oa oc w hrs hbw hlen (fun _ _ _ _ _ _ _ _ _ _ _ h => h.elim)
 | succ n ih =>
  intro k b0 b1 b2 b3 b4 b5 b6 b7 l hn hz ht out oa oc w hrs hbw hlen
  obtain ⟨t, ms, hB, hro, hnt⟩ := ht
  refine rdir_step hT hb0 hes k b0 b1 b2 b3 b4 b5 b6 b7 l t ms (TellsW (ilk es) n) hB hro hnt (by omega) (fun h => by omega) hz out oa oc w hrs hbw hlen ?_
  intro a e0 e1 e2 e3 e4 e5 e6 e7 l' ha hs out' oa' oc' u hrs' hbw' hlen'
  have hkl : (k ++ [a]).length = k.length + 1 := by rw [List.length_append]; rfl
  have := ih (k ++ [a]) e0 e1 e2 e3 e4 e5 e6 e7 l' (by rw [hkl]; omega) (by
   have h1 : (pthB (k ++ [a])).size = (pthB k).size + 1 + a.length := by rw [← bT_length, bT_pthB, pthT_snoc, ← bT_length (pthB k), bT_pthB]; simp; omega
   rw [h1, hkl]; omega) hs out' oa' oc' u hrs' hbw' hlen'
  rw [hkl] at this
  exact this
def Cons (l : List Bl) : Prop := (∀ b ∈ l, pcode b = 0) ∧ ∀ b ∈ l, ∀ c ∈ l, pidL b = pidL c → b = c
theorem Cons.nil : Cons [] := ⟨by simp, by simp⟩
theorem Cons.sub {l m : List Bl} (h : Cons m) (hs : ∀ b ∈ l, b ∈ m) : Cons l := ⟨fun b hb => h.1 b (hs b hb), fun b hb c hc => h.2 b (hs b hb) c (hs c hc)⟩
def lkL (l : List Bl) (id : List Nat) : Option Bl := l.find? (fun b => pidL b == id)
theorem lkL_some {l : List Bl} {id : List Nat} {b : Bl} (h : lkL l id = some b) : b ∈ l ∧ pidL b = id := ⟨List.mem_of_find?_eq_some h, by have := List.find?_some h; simpa using this⟩
theorem Cons.lk {l : List Bl} (h : Cons l) {b : Bl} (hb : b ∈ l) : lkL l (pidL b) = some b := by
 cases hq : lkL l (pidL b) with
 | none => have := List.find?_eq_none.1 hq b hb; simp at this
 | some c =>
  obtain ⟨h1, h2⟩ := lkL_some hq
  rw [h.2 c h1 b hb h2]
theorem Cons.snoc {l : List Bl} {b : Bl} (h : Cons l) (hp : pcode b = 0) (hq : ∀ c, lkL l (pidL b) = some c → c = b) : Cons (l ++ [b]) := by
 have key : ∀ c ∈ l, pidL c = pidL b → c = b := fun c hc e => hq c (by rw [← e]; exact h.lk hc)
 refine ⟨fun c hc => ?_, fun c hc d hd e => ?_⟩
 ·
  rcases List.mem_append.1 hc with hc | hc
  ·
   exact h.1 c hc
  ·
   rw [List.mem_singleton] at hc; subst hc; exact hp
 ·
  rcases List.mem_append.1 hc with hc | hc
  ·
   rcases List.mem_append.1 hd with hd | hd
   ·
    exact h.2 c hc d hd e
   ·
    rw [List.mem_singleton] at hd; rw [hd] at e ⊢; exact key c hc e
  ·
   rw [List.mem_singleton] at hc
   subst hc
   rcases List.mem_append.1 hd with hd | hd
   ·
    exact (key d hd e.symm).symm
   ·
    rw [List.mem_singleton] at hd; exact hd.symm
theorem lkL_snoc (l : List Bl) (b : Bl) (id : List Nat) : lkL (l ++ [b]) id = (match lkL l id with | some x => some x | none => if pidL b = id then some b else none) := by
 unfold lkL
 rw [List.find?_append]
 cases l.find? (fun b => pidL b == id) with
 | some e => rfl
 | none => by_cases h : pidL b = id <;> simp [h]
def HpM (l : List Bl) (es : List (List Nat × Bl)) : Prop := (∀ e ∈ es, e.1.length = 8) ∧ ∀ id, ilk es id = lkL l id
theorem HpM.nil : HpM [] [] := ⟨by simp, fun _ => rfl⟩
theorem HpM.new {l : List Bl} {es : List (List Nat × Bl)} (h : HpM l es) (b : Bl) : HpM (l ++ [b]) (es ++ [(pidL b, b)]) := by
 refine ⟨fun e he => ?_, fun id => ?_⟩
 ·
  rcases List.mem_append.1 he with he | he
  ·
   exact h.1 e he
  ·
   rw [List.mem_singleton] at he; subst he; exact pidL_length b
 ·
  rw [ilk_snoc, lkL_snoc, h.2 id]
  cases lkL l id <;> rfl
theorem HpM.same {l : List Bl} {es : List (List Nat × Bl)} (h : HpM l es) {b : Bl} (hb : lkL l (pidL b) = some b) : HpM (l ++ [b]) es := by
 refine ⟨h.1, fun id => ?_⟩
 rw [lkL_snoc, h.2 id]
 cases hq : lkL l id with
 | some x => rfl
 | none =>
  by_cases e : pidL b = id
  ·
   subst e; rw [hq] at hb; cases hb
  ·
   simp [e]
end Go.Proofs.YtbfoonfbhebhfaaGreatDoor
