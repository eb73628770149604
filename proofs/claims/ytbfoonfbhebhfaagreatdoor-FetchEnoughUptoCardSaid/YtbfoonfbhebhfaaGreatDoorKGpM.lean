/- Joined: FetchE, IdsOf. -/
import Derived.Test.YtbfoonfbhebhfaaGreatDoorKGpF
import Derived.Test.YtbfoonfbhebhfaaGreatDoorKGpG
import Derived.Test.YtbfoonfbhebhfaaGreatDoorKGoI
import Derived.Test.YtbfoonfbhebhfaaGreatDoorKGpC
import Derived.Test.YtbfoonfbhebhfaaGreatDoorKGoK
namespace Go.Proofs.YtbfoonfbhebhfaaGreatDoor
open Go.RowKit Plain Go.Maps
set_option linter.unusedVariables false
set_option linter.unusedSimpArgs false
structure PlM (M : List Bl) : Prop where
 cons : Cons M
 ok : ∀ b ∈ M, NdOk b
 need : ∀ (i : Nat) (hi : i < M.length), ∀ n ∈ ndF M[i], n ∈ (M.take i).map pidL
 nod : ∀ (i : Nat) (hi : i < M.length), pidL M[i] ∉ (M.take i).map pidL
theorem OnceL.plm {M : List Bl} {id : List Nat} (h : OnceL M id) : PlM M := ⟨h.ids.cons, fun b hb => ⟨(h.ok b hb).1, fun h2 => by
 rcases (h.ok b hb).2 with h1 | ⟨_, h1⟩
 ·
  rw [h1] at h2; cases h2
 ·
  exact h1⟩, h.need, fun i hi => nodup_take h.ids hi⟩
inductive NeedN (S : List (List Nat)) : List Bl → Prop
 | nil : NeedN S []
 | snoc {N : List Bl} {b : Bl} : NeedN S N → (∀ n ∈ ndF b, n ∈ S ∨ n ∈ N.map pidL) → NeedN S (N ++ [b])
theorem NeedN.append {S S' : List (List Nat)} {N : List Bl} (h : NeedN S N) (hs : ∀ x ∈ S', x ∈ S ∨ x ∈ N.map pidL) : ∀ {R : List Bl}, NeedN S' R → NeedN S (N ++ R) := by
 intro R g
 induction g with
 | nil => rwa [List.append_nil]
 | @snoc R b _ h2 ih =>
  rw [← List.append_assoc]
  refine .snoc ih fun n hn => ?_
  rw [List.map_append, List.mem_append]
  rcases h2 n hn with h3 | h3
  ·
   rcases hs n h3 with h4 | h4
   ·
    exact .inl h4
   ·
    exact .inr (.inl h4)
  ·
   exact .inr (.inr h3)
theorem NeedN.drop {S : List (List Nat)} {id : List Nat} {N : List Bl} (h : NeedN (S ++ [id]) N) : (∀ b ∈ N, id ∉ ndF b) → NeedN S N := by
 induction h with
 | nil => intro _; exact .nil
 | @snoc N b _ h2 ih =>
  intro hn
  refine .snoc (ih fun c hc => hn c (List.mem_append_left _ hc)) fun n hm => ?_
  rcases h2 n hm with h3 | h3
  ·
   rcases List.mem_append.1 h3 with h4 | h4
   ·
    exact .inl h4
   ·
    rw [List.mem_singleton] at h4
    subst h4
    exact absurd hm (hn b (by simp))
  ·
   exact .inr h3
theorem NeedN.sub {S S' : List (List Nat)} {N : List Bl} (h : NeedN S N) (hs : ∀ x ∈ S, x ∈ S') : NeedN S' N := by
 induction h with
 | nil => exact .nil
 | @snoc N b _ h2 ih => exact .snoc ih fun n hm => (h2 n hm).imp (hs n) id
theorem NeedN.mem {S : List (List Nat)} {N : List Bl} (h : NeedN S N) : ∀ b ∈ N, ∀ n ∈ ndF b, n ∈ S ∨ n ∈ N.map pidL := by
 induction h with
 | nil => intro b hb; cases hb
 | @snoc N b _ h2 ih =>
  intro c hc n hn
  rw [List.map_append, List.mem_append]
  rcases List.mem_append.1 hc with hc | hc
  ·
   rcases ih c hc n hn with h3 | h3
   ·
    exact .inl h3
   ·
    exact .inr (.inl h3)
  ·
   rw [List.mem_singleton] at hc
   subst hc
   rcases h2 n hn with h3 | h3
   ·
    exact .inl h3
   ·
    exact .inr (.inl h3)
theorem NeedN.inv {S : List (List Nat)} {l : List Bl} (h : NeedN S l) : ∀ {N : List Bl} {b : Bl}, l = N ++ [b] → NeedN S N ∧ ∀ n ∈ ndF b, n ∈ S ∨ n ∈ N.map pidL := by
 cases h with
 | nil => intro N b e; simp at e
 | snoc h1 h2 =>
  intro N b e
  obtain ⟨rfl, e2⟩ := List.append_inj' e rfl
  injection e2 with e2
  subst e2
  exact ⟨h1, h2⟩
theorem NeedN.pre {S : List (List Nat)} : ∀ (R N : List Bl), NeedN S (N ++ R) → NeedN S N := by
 intro R
 induction R with
 | nil => intro N h; rwa [List.append_nil] at h
 | cons b R ih =>
  intro N h
  have h1 := ih (N ++ [b]) (by rw [List.append_assoc]; exact h)
  exact (h1.inv rfl).1
structure ExtN (M : List Bl) (r : Nat) (st st' : VSt) (N : List Bl) : Prop where
 out : st'.2 = st.2 ++ N
 seen : ∀ x, x ∈ st'.1 ↔ x ∈ st.1 ∨ x ∈ N.map pidL
 sub : ∀ b ∈ N, b ∈ M.take r ∧ pidL b ∉ st.1
 nod : (N.map pidL).Nodup
 need : NeedN st.1 N
theorem ExtN.refl (M : List Bl) (r : Nat) (st : VSt) : ExtN M r st st [] := ⟨by simp, by simp, by simp, by simp, .nil⟩
theorem ExtN.trans {M : List Bl} {r : Nat} {a b c : VSt} {N R : List Bl} (h : ExtN M r a b N) (g : ExtN M r b c R) : ExtN M r a c (N ++ R) := by
 refine ⟨by rw [g.out, h.out, List.append_assoc], fun x => ?_, fun d hd => ?_, ?_, ?_⟩
 ·
  rw [g.seen x, h.seen x, List.map_append, List.mem_append, or_assoc]
 ·
  rcases List.mem_append.1 hd with hd | hd
  ·
   exact h.sub d hd
  ·
   exact ⟨(g.sub d hd).1, fun hc => (g.sub d hd).2 ((h.seen _).2 (.inl hc))⟩
 ·
  rw [List.map_append, List.nodup_append]
  refine ⟨h.nod, g.nod, fun x hx y hy e => ?_⟩
  subst e
  obtain ⟨d, hd, rfl⟩ := List.mem_map.1 hy
  exact (g.sub d hd).2 ((h.seen _).2 (.inr hx))
 ·
  exact h.need.append (fun x hx => (h.seen x).1 hx) g.need
theorem take_sub {α : Type} {l : List α} {i j : Nat} (h : i ≤ j) {x : α} (hx : x ∈ l.take i) : x ∈ l.take j := by
 rw [show l.take i = (l.take j).take i from by rw [List.take_take, Nat.min_eq_left h]] at hx
 exact List.mem_of_mem_take hx
theorem ExtN.mono {M : List Bl} {r s : Nat} {a b : VSt} {N : List Bl} (h : ExtN M r a b N) (hr : r ≤ s) : ExtN M s a b N := ⟨h.out, h.seen, fun b hb => ⟨take_sub hr (h.sub b hb).1, (h.sub b hb).2⟩, h.nod, h.need⟩
theorem run_ok {M : List Bl} {i : Nat} (hi : i ≤ M.length) {f : List Nat → VSt → Option VSt} (hf : ∀ (j : Nat) (hj : j < i) (st : VSt), ∃ st' N, f (pidL (M[j]'(by omega))) st = some st' ∧ ExtN M i st st' N ∧ pidL (M[j]'(by omega)) ∈ st'.1) :
  ∀ (l : List (List Nat)), (∀ n ∈ l, n ∈ (M.take i).map pidL) → ∀ st : VSt, ∃ st' N, runL f l st = some st' ∧ ExtN M i st st' N ∧ ∀ n ∈ l, n ∈ st'.1
 | [], _, st => ⟨st, [], rfl, .refl M i st, by simp⟩
 | n :: l, hl, st => by
  obtain ⟨b, hb, rfl⟩ := List.mem_map.1 (hl n (by simp))
  obtain ⟨j, hj, e⟩ := List.mem_iff_getElem.1 hb
  have hj' : j < i := by rw [List.length_take] at hj; omega
  have e2 : M[j]'(by omega) = b := by rw [← e, List.getElem_take]
  obtain ⟨s1, N, h1, h2, h3⟩ := hf j hj' st
  rw [e2] at h1 h3
  obtain ⟨s2, R, g1, g2, g3⟩ := run_ok hi hf l (fun n hn => hl n (List.mem_cons_of_mem _ hn)) s1
  refine ⟨s2, N ++ R, by rw [runL, h1]; exact g1, h2.trans g2, fun n hn => ?_⟩
  rcases List.mem_cons.1 hn with rfl | hn
  ·
   exact (g2.seen _).2 (.inl h3)
  ·
   exact g3 n hn
theorem step_ok {M : List Bl} (H : PlM M) {i : Nat} (hi : i < M.length) {f : List Nat → VSt → Option VSt} (hf : ∀ (j : Nat) (hj : j < i) (st : VSt), ∃ st' N, f (pidL (M[j]'(by omega))) st = some st' ∧ ExtN M i st st' N ∧ pidL (M[j]'(by omega)) ∈ st'.1) (st : VSt) :
  ∃ st' N, stepF (lkL M) f (pidL M[i]) st = some st' ∧ ExtN M (i + 1) st st' N ∧ pidL M[i] ∈ st'.1 := by
 by_cases hs : pidL M[i] ∈ st.1
 ·
  exact ⟨st, [], stepF_seen hs, .refl _ _ _, hs⟩
 ·
  have hb := H.cons.lk (List.getElem_mem hi)
  obtain ⟨s2, N, h1, h2, h3⟩ := run_ok (Nat.le_of_lt hi) hf (ndF M[i]) (H.need i hi) (st.1 ++ [pidL M[i]], st.2)
  have hN : ∀ b ∈ N, b ∈ M.take i ∧ pidL b ∉ st.1 ∧ pidL b ≠ pidL M[i] := fun b hb => by
   have := h2.sub b hb
   have h4 := this.2
   simp only [List.mem_append, List.mem_singleton, not_or] at h4
   exact ⟨this.1, h4.1, h4.2⟩
  have hno : ∀ b ∈ N, pidL M[i] ∉ ndF b := fun b hb hn => by
   obtain ⟨j, hj, e⟩ := List.mem_iff_getElem.1 (hN b hb).1
   have hj' : j < i := by rw [List.length_take] at hj; omega
   rw [List.getElem_take] at e
   subst e
   have h5 := H.need j (by omega) _ hn
   refine H.nod i hi ?_
   obtain ⟨c, hc, e⟩ := List.mem_map.1 h5
   exact List.mem_map.2 ⟨c, take_sub (by omega) hc, e⟩
  refine ⟨(s2.1, s2.2 ++ [M[i]]), N ++ [M[i]], stepF_ok hs hb (H.ok _ (List.getElem_mem hi)) h1, ⟨?_, fun x => ?_, fun b hb => ?_, ?_, ?_⟩, ?_⟩
  ·
   show s2.2 ++ [M[i]] = st.2 ++ (N ++ [M[i]])
   rw [h2.out, List.append_assoc]
  ·
   show x ∈ s2.1 ↔ _
   rw [h2.seen x]
   simp only [List.mem_append, List.mem_singleton, List.map_append, List.map_cons, List.map_nil]
   constructor
   ·
    rintro ((h | h) | h)
    ·
     exact .inl h
    ·
     exact .inr (.inr h)
    ·
     exact .inr (.inl h)
   ·
    rintro (h | h | h)
    ·
     exact .inl (.inl h)
    ·
     exact .inr h
    ·
     exact .inl (.inr h)
  ·
   rcases List.mem_append.1 hb with hb | hb
   ·
    exact ⟨take_sub (Nat.le_succ i) (hN b hb).1, (hN b hb).2.1⟩
   ·
    rw [List.mem_singleton] at hb
    subst hb
    exact ⟨by rw [List.take_succ_eq_append_getElem hi]; exact List.mem_append.2 (.inr (List.mem_singleton.2 rfl)), hs⟩
  ·
   rw [List.map_append, List.nodup_append]
   refine ⟨h2.nod, by simp, fun x hx y hy e => ?_⟩
   obtain ⟨d, hd, rfl⟩ := List.mem_map.1 hx
   simp only [List.map_cons, List.map_nil, List.mem_singleton] at hy
   exact (hN d hd).2.2 (e.trans hy)
  ·
   refine .snoc (h2.need.drop hno) fun n hn => ?_
   have h5 := (h2.seen n).1 (h3 n hn)
   rcases h5 with h5 | h5
   ·
    rcases List.mem_append.1 h5 with h5 | h5
    ·
     exact .inl h5
    ·
     rw [List.mem_singleton] at h5
     subst h5
     exact absurd (H.need i hi _ hn) (H.nod i hi)
   ·
    exact .inr h5
  ·
   exact (h2.seen _).2 (.inl (by simp))
theorem visit_ok {M : List Bl} (H : PlM M) : ∀ (n i : Nat) (hi : i < M.length), i ≤ n → ∀ st : VSt, ∃ st' N, visitF (lkL M) n (pidL M[i]) st = some st' ∧ ExtN M (i + 1) st st' N ∧ pidL M[i] ∈ st'.1
 | 0, i, hi, hn, st => step_ok H hi (fun j hj => absurd hj (by omega)) st
 | n + 1, i, hi, hn, st => step_ok H hi (fun j hj st => by
  obtain ⟨s, N, h1, h2, h3⟩ := visit_ok H n j (by omega) (by omega) st
  exact ⟨s, N, h1, h2.mono (by omega), h3⟩) st
structure Sends (hv : List (List Nat)) (M : List Bl) (y : List Nat) (N : List Bl) : Prop where
 sub : ∀ b ∈ N, b ∈ M ∧ pidL b ∉ hv
 nod : (N.map pidL).Nodup
 need : NeedN hv N
 root : y ∈ hv ∨ y ∈ N.map pidL
theorem plan_ok {M : List Bl} (H : PlM M) (hz : M.length ≤ 1000) (hv : List (List Nat)) {k : Nat} (hk : k < M.length) : ∃ seen N, planF M hv [pidL M[k]] = some (seen, N) ∧ Sends hv M (pidL M[k]) N := by
 obtain ⟨⟨s, o⟩, N, h1, h2, h3⟩ := visit_ok H 1000 k hk (by omega) (ddp hv, [])
 have ho : o = N := by simpa using h2.out
 subst ho
 refine ⟨s, o, by rw [planF, runL, h1]; rfl, fun b hb => ⟨List.mem_of_mem_take (h2.sub b hb).1, fun hc => (h2.sub b hb).2 ((ddp_mem _ _).2 hc)⟩, h2.nod, h2.need.sub fun x hx => (ddp_mem _ _).1 hx, ?_⟩
 rcases (h2.seen _).1 h3 with h | h
 ·
  exact .inl ((ddp_mem _ _).1 h)
 ·
  exact .inr h
theorem plan_none {M : List Bl} {hv : List (List Nat)} {y : List Nat} (h : y ∈ hv) : planF M hv [y] = some (ddp hv, []) := by
 rw [planF, runL, visitF, stepF_seen ((ddp_mem _ _).2 h)]
 rfl
theorem intoR_eq {L N O : List Bl} (h : IntoR L N O) : (N.map pidL).Nodup → (∀ b ∈ N, pidL b ∉ L.map pidL) → O = L ++ N := by
 induction h with
 | nil => intro _ _; rw [List.append_nil]
 | @skip m O b h1 h2 h3 ih =>
  intro hn hs
  rw [List.map_append, List.nodup_append] at hn
  have e := ih hn.1 fun c hc => hs c (List.mem_append_left _ hc)
  subst e
  rcases List.mem_append.1 (lkL_some h3).1 with hb | hb
  ·
   exact absurd (List.mem_map.2 ⟨b, hb, rfl⟩) (hs b (by simp))
  ·
   exact absurd rfl (hn.2.2 (pidL b) (List.mem_map.2 ⟨b, hb, rfl⟩) (pidL b) (by simp))
 | @add m O b h1 h2 h3 h4 h5 h6 ih =>
  intro hn hs
  rw [List.map_append, List.nodup_append] at hn
  rw [ih hn.1 fun c hc => hs c (List.mem_append_left _ hc), List.append_assoc]
theorem into_good {L M N : List Bl} {y : List Nat} (HL : PlM L) (HM : PlM M) (h : Sends (L.map pidL) M y N) (hz : L.length + N.length ≤ 1000) (c : Int) : ¬ IntoBad L N c := by
 rintro (h1 | h1 | ⟨i, b, O, e, hr, h1⟩)
 ·
  omega
 ·
  exact h1 HL.cons
 ·
  have hbN : b ∈ N := List.mem_of_mem_take (i := i + 1) (by rw [e]; exact List.mem_append.2 (.inr (List.mem_singleton.2 rfl)))
  have hb := (h.sub b hbN).1
  have hl : i < N.length := by
   have h2 : (N.take (i + 1)).length = (N.take i ++ [b]).length := by rw [e]
   simp only [List.length_take, List.length_append, List.length_cons, List.length_nil] at h2
   omega
  have hnod : ((N.take i ++ [b]).map pidL).Nodup := by
   rw [← e, List.map_take]
   exact h.nod.sublist (List.take_sublist _ _)
  rw [List.map_append, List.nodup_append] at hnod
  have hO := intoR_eq hr hnod.1 fun c hc => (h.sub c (List.mem_of_mem_take hc)).2
  subst hO
  have hno : ∀ o, lkL (L ++ N.take i) (pidL b) = some o → False := fun o ho => by
   obtain ⟨h2, h3⟩ := lkL_some ho
   rcases List.mem_append.1 h2 with h4 | h4
   ·
    exact (h.sub b hbN).2 (List.mem_map.2 ⟨o, h4, h3⟩)
   ·
    exact hnod.2.2 (pidL o) (List.mem_map.2 ⟨o, h4, rfl⟩) (pidL b) (by simp) h3
  have hnd := HM.ok b hb
  have hneed : ∀ n ∈ ndF b, ∃ d ∈ L ++ N.take i, pidL d = n := fun n hn => by
   have h2 : NeedN (L.map pidL) (N.take (i + 1)) := NeedN.pre (N.drop (i + 1)) _ (by rw [List.take_append_drop]; exact h.need)
   rcases (h2.inv e).2 n hn with h3 | h3
   ·
    obtain ⟨d, hd, e⟩ := List.mem_map.1 h3
    exact ⟨d, List.mem_append_left _ hd, e⟩
   ·
    obtain ⟨d, hd, e⟩ := List.mem_map.1 h3
    exact ⟨d, List.mem_append_right _ hd, e⟩
  rcases h1 with h1 | ⟨o, h1, _⟩ | ⟨_, _, h1, _⟩ | h1 | ⟨h1, _⟩
  ·
   exact h1 (HM.cons.1 b hb)
  ·
   exact hno o h1
  ·
   exact h1 hneed
  ·
   exact h1 hnd
  ·
   simp only [List.length_append, List.length_take] at h1
   omega
theorem into_is {L M N O : List Bl} {y : List Nat} (h : Sends (L.map pidL) M y N) (hr : IntoR L N O) : O = L ++ N := intoR_eq hr h.nod fun b hb => (h.sub b hb).2
theorem planted_needed {y : Wy} {w : List It} {M : List Bl} {id : List Nat} (h : Planted y w M id) (ht : TmOk w) : ∀ b ∈ M, pidL b = id ∨ ∃ c ∈ M, pidL b ∈ ndF c := fun b hb => by
 have hf := h.form ht
 obtain ⟨o, t, ms, he, hid, _, _, _, h1, _⟩ := h.once ht
 rw [he] at hb
 rcases List.mem_append.1 hb with hb | hb
 ·
  obtain ⟨c, hc, hn⟩ := h1 b hb
  exact .inr ⟨c, hc, (ndF_mem (hf c hc) _).2 hn⟩
 ·
  rw [List.mem_singleton] at hb
  subst hb
  exact .inl hid.symm
theorem all_in {L M N : List Bl} {y : List Nat} (HL : PlM L) (HM : PlM M) (hc : Cons (L ++ M)) (h : Sends (L.map pidL) M y N) (hn : ∀ b ∈ M, pidL b = y ∨ ∃ c ∈ M, pidL b ∈ ndF c) : ∀ b ∈ M, b ∈ L ++ N := by
 have hcl : ∀ c ∈ M, (pidL c ∈ L.map pidL ∨ pidL c ∈ N.map pidL) → ∀ n ∈ ndF c, n ∈ L.map pidL ∨ n ∈ N.map pidL := fun c hcM hS n hn => by
  rcases hS with hS | hS
  ·
   obtain ⟨d, hd, e⟩ := List.mem_map.1 hS
   obtain rfl := hc.2 d (List.mem_append_left _ hd) c (List.mem_append_right _ hcM) e
   obtain ⟨j, hj, e⟩ := List.mem_iff_getElem.1 hd
   subst e
   obtain ⟨d, hd2, e⟩ := List.mem_map.1 (HL.need j hj n hn)
   exact .inl (List.mem_map.2 ⟨d, List.mem_of_mem_take hd2, e⟩)
  ·
   obtain ⟨d, hd, e⟩ := List.mem_map.1 hS
   obtain rfl := HM.cons.2 d (h.sub d hd).1 c hcM e
   exact h.need.mem d hd n hn
 have key : ∀ (k i : Nat) (hi : i < M.length), M.length - i ≤ k → pidL M[i] ∈ L.map pidL ∨ pidL M[i] ∈ N.map pidL := by
  intro k
  induction k with
  | zero => intro i hi hk; omega
  | succ k ih =>
   intro i hi hk
   rcases hn M[i] (List.getElem_mem hi) with e | ⟨c, hcM, hm⟩
   ·
    rw [e]; exact h.root
   ·
    obtain ⟨j, hj, e⟩ := List.mem_iff_getElem.1 hcM
    subst e
    have hij : i < j := by
     rcases Nat.lt_or_ge i j with h1 | h1
     ·
      exact h1
     ·
      exfalso
      obtain ⟨d, hd, e⟩ := List.mem_map.1 (HM.need j hj _ hm)
      exact HM.nod i hi (List.mem_map.2 ⟨d, take_sub h1 hd, e⟩)
    exact hcl _ hcM (ih j hj (by omega)) _ hm
 intro b hb
 obtain ⟨i, hi, e⟩ := List.mem_iff_getElem.1 hb
 subst e
 rcases key M.length i hi (by omega) with h1 | h1
 ·
  obtain ⟨d, hd, e⟩ := List.mem_map.1 h1
  obtain rfl := hc.2 d (List.mem_append_left _ hd) _ (List.mem_append_right _ hb) e
  exact List.mem_append_left _ hd
 ·
  obtain ⟨d, hd, e⟩ := List.mem_map.1 h1
  obtain rfl := HM.cons.2 d (h.sub d hd).1 _ hb e
  exact List.mem_append_right _ hd
structure Enough (L M N : List Bl) (x y : List Nat) (a b : List It) : Prop where
 len : N.length ≤ M.length
 nodup : N.Nodup
 old : ∀ p ∈ N, p ∉ L
 from_ : ∀ p ∈ N, p ∈ M
 cons : Cons (L ++ N)
 tellA : TellsW (lkL (L ++ N)) 8 [] x a
 tellB : TellsW (lkL (L ++ N)) 8 [] y b
 root : y ∈ (L ++ N).map pidL
theorem enough_law {q : Wy} {a b : List It} {L M N : List Bl} {x y : List Nat} (hL : Planted q a L x) (hM : Planted q b M y) (ta : TmOk a) (tb : TmOk b) (hc : Cons (L ++ M)) (h : Sends (L.map pidL) M y N) : Enough L M N x y a b := by
 have HL := (once_law hL ta).plm
 have HM := (once_law hM tb).plm
 have hin := all_in HL HM hc h (planted_needed hM tb)
 have hco : Cons (L ++ N) := hc.sub fun c hcc => by
  rcases List.mem_append.1 hcc with h1 | h1
  ·
   exact List.mem_append_left _ h1
  ·
   exact List.mem_append_right _ (h.sub c h1).1
 have hnd : N.Nodup := nodup_of_map h.nod
 refine ⟨nodup_sub_len hnd fun c hcc => (h.sub c hcc).1, hnd, fun p hp hq => (h.sub p hp).2 (List.mem_map.2 ⟨p, hq, rfl⟩), fun p hp => (h.sub p hp).1, hco, hL.tellsL ta hco fun c hcc => List.mem_append_left _ hcc, hM.tellsL tb hco hin, ?_⟩
 rw [List.map_append, List.mem_append]
 exact h.root
end Go.Proofs.YtbfoonfbhebhfaaGreatDoor
namespace Go.Proofs.YtbfoonfbhebhfaaGreatDoor
open Go.RowKit Plain Go.Maps Go.ChangeMaps
set_option linter.unusedVariables false
set_option linter.unusedSimpArgs false
def IofEnd (l : List Bl) (w0 : World) (e : Ending) (w : World) : Prop := Below w0.heap.size w0 w ∧ ∃ (oa : Option Addr) (oc : Nat), e = .returned (.slice oa l.length oc) ∧ w.ownsRow w0.heap.size 30 8 (.slice oa l.length oc) l.length ((l.map pidL).flatMap idK)
def iofX (l : List Bl) (i : Nat) : List Value := ((l.take i).map pidL).flatMap idK
theorem pids_l (l : List Bl) : IdsL (l.map pidL) := fun x hx => by
 obtain ⟨b, _, rfl⟩ := List.mem_map.1 hx
 exact pidL_length b
theorem IofEnd.sat {l : List Bl} {B : Nat} {oa : Option Addr} {oc : Nat} {w : World} (h : w.ownsRow B 30 8 (.slice oa l.length oc) l.length ((l.map pidL).flatMap idK)) : SAt 8 idK w oa (l.map pidL) := own_satI (cc := oc) (pids_l l) (by rw [List.length_map]; exact h)
set_option maxRecDepth 100000 in
set_option maxHeartbeats 2000000 in
theorem idsOf_any (a : Option Addr) (cap : Nat) (l : List Bl) (w : World) (h : SAt 2 blC w a l) (hl : l.length ≤ 8796093022208) :
  Calls Tryz.prog 39 #[.slice a l.length cap] w (IofEnd l w) := by
 obtain ⟨ii0, hi0, hz0, hz1, hz2⟩ := info_parts info_idW
 have HS := Lib.hid h
 clear h
 go_enter Tryz.func39, Tryz.ntmps39
 go_wp2_with fail
 go_loopw [3, 10] (fun ov iv wr => ∃ (i : Nat) (oa : Option Addr) (oc : Nat), i ≤ l.length ∧ iv = .int .i64 (i : Int) ∧ ov = .slice oa i oc ∧ Hid (wr.ownsRow w.heap.size 30 8 (.slice oa i oc) i (iofX l i)) ∧ Hid (Below w.heap.size w wr)) (fun _ iv _ => l.length - (intOf iv).toNat)
 case atStart => exact ⟨0, none, 0, Nat.zero_le _, rfl, rfl, Lib.hid (World.ownsRow_nil _ _ _ _), Lib.hid (Below.refl _ _)⟩
 case round =>
  obtain ⟨i, oa, oc, hi, rfl, rfl, HOR, HBR⟩ := hrel
  by_cases hlt : i < l.length
  ·
   have m1 : (i : Int) < (l.length : Int) := by omega
   obtain ⟨g, off, rfl, hg, hr⟩ := (HS.out.below HBR.out) i hlt
   have htk : l.take (i + 1) = l.take i ++ [l[i]] := List.take_succ_eq_append_getElem hlt
   generalize l[i] = bl at *
   obtain ⟨k, s⟩ := bl
   have HTK := Lib.hid htk
   have r0 : wr.cell? ⟨g, off + i * 2, none⟩ = some (.int .i64 k) := hr 0 _ rfl
   have r1 : wr.cell? ⟨g, off + i * 2 + 1, none⟩ = some (.string s) := hr 1 _ rfl
   have HLT := Lib.hid hlt
   have hna := heap_alloc_new wr (.cells #[.int .i64 k, .string s] 37)
   have hba := (Below.refl wr.heap.size wr).alloc (Nat.le_refl _) (.cells #[.int .i64 k, .string s] 37)
   have HBA := Lib.hid hba
   have a0 := cell_of_row _ _ 0 _ _ _ hna
   have a1 := cell_of_row _ _ 1 _ _ _ hna
   simp only [List.getElem?_toArray, List.getElem?_cons_succ, List.getElem?_cons_zero] at a0 a1
   clear htk hr hg hna hba hlt
   go_wp2_with fail
   refine (pid_any (k, s) _).mono ?_
   rintro e w5 ⟨rfl, hb5⟩
   obtain ⟨d0, d1, d2, d3, d4, d5, d6, d7, hu⟩ := list8W (pidL_length (k, s))
   have HU := Lib.hid hu
   rw [hu]
   have hbc : bC [d0, d1, d2, d3, d4, d5, d6, d7] = #[.int .u8 (d0 : Int), .int .u8 (d1 : Int), .int .u8 (d2 : Int), .int .u8 (d3 : Int), .int .u8 (d4 : Int), .int .u8 (d5 : Int), .int .u8 (d6 : Int), .int .u8 (d7 : Int)] := rfl
   rw [hbc]
   obtain ⟨pc, hpc⟩ : ∃ pc, pcode (k, s) = pc := ⟨_, rfl⟩
   rw [hpc]
   have HX5 := Lib.hid (HBA.out.trans (hb5.mono HBA.out.size))
   have hba6 := (Below.refl w5.heap.size w5).alloc (Nat.le_refl _) (.cells #[.int .u8 (d0 : Int), .int .u8 (d1 : Int), .int .u8 (d2 : Int), .int .u8 (d3 : Int), .int .u8 (d4 : Int), .int .u8 (d5 : Int), .int .u8 (d6 : Int), .int .u8 (d7 : Int)] 30)
   have hu6 := heap_alloc_new w5 (.cells #[.int .u8 (d0 : Int), .int .u8 (d1 : Int), .int .u8 (d2 : Int), .int .u8 (d3 : Int), .int .u8 (d4 : Int), .int .u8 (d5 : Int), .int .u8 (d6 : Int), .int .u8 (d7 : Int)] 30)
   have HX6 := Lib.hid (HX5.out.trans (hba6.mono HX5.out.size))
   have HO6 := Lib.hid (own_belowK HOR.out HX6.out)
   have HB6 := Lib.hid (HBR.out.trans (HX6.out.mono HBR.out.size))
   have y0 := cell_of_row _ _ 0 _ _ _ hu6
   have y1 := cell_of_row _ _ 1 _ _ _ hu6
   have y2 := cell_of_row _ _ 2 _ _ _ hu6
   have y3 := cell_of_row _ _ 3 _ _ _ hu6
   have y4 := cell_of_row _ _ 4 _ _ _ hu6
   have y5 := cell_of_row _ _ 5 _ _ _ hu6
   have y6 := cell_of_row _ _ 6 _ _ _ hu6
   have y7 := cell_of_row _ _ 7 _ _ _ hu6
   simp only [List.getElem?_toArray, List.getElem?_cons_zero, List.getElem?_cons_succ] at y0 y1 y2 y3 y4 y5 y6 y7
   have HEN : Hid (iofX l (i + 1) = iofX l i ++ idC (d0, d1, d2, d3, d4, d5, d6, d7)) := Lib.hid (by
    unfold iofX
    rw [HTK.out, List.map_append, List.flatMap_append, List.map_cons, List.map_nil, HU.out, List.flatMap_cons, List.flatMap_nil, List.append_nil]
    rfl)
   have D1 := Lib.hid (cells_new_at (w5.alloc (.cells #[.int .u8 (d0 : Int), .int .u8 (d1 : Int), .int .u8 (d2 : Int), .int .u8 (d3 : Int), .int .u8 (d4 : Int), .int .u8 (d5 : Int), .int .u8 (d6 : Int), .int .u8 (d7 : Int)] 30)) (w5.heap.size + 1) (by simp) #[.int .u8 (d0 : Int), .int .u8 (d1 : Int), .int .u8 (d2 : Int), .int .u8 (d3 : Int), .int .u8 (d4 : Int), .int .u8 (d5 : Int), .int .u8 (d6 : Int), .int .u8 (d7 : Int)] 30 (idC (d0, d1, d2, d3, d4, d5, d6, d7)) rfl)
   have D2 := Lib.hid (idC_one (d0, d1, d2, d3, d4, d5, d6, d7))
   have D3 : Hid (i + 1 ≤ maxLen) := Lib.hid (by unfold maxLen; omega)
   have D4 : Hid ((i + 1) * 8 ≤ 140737488355328) := Lib.hid (by omega)
   have D5 : Hid (w.heap.size ≤ ((w5.alloc (.cells #[.int .u8 (d0 : Int), .int .u8 (d1 : Int), .int .u8 (d2 : Int), .int .u8 (d3 : Int), .int .u8 (d4 : Int), .int .u8 (d5 : Int), .int .u8 (d6 : Int), .int .u8 (d7 : Int)] 30)).alloc (.cells #[.int .u8 (d0 : Int), .int .u8 (d1 : Int), .int .u8 (d2 : Int), .int .u8 (d3 : Int), .int .u8 (d4 : Int), .int .u8 (d5 : Int), .int .u8 (d6 : Int), .int .u8 (d7 : Int)] 30)).heap.size) := Lib.hid (by have := HB6.out.size; simp at this ⊢; omega)
   clear hu hbc hb5 hba6 hu6 a0 a1 r0 r1 hpc
   go_wp2_with (at_builtin; refine wpList_append_own _ rfl _ _ 57 rfl w.heap.size 30 ii0 (.agg (idC (0, 0, 0, 0, 0, 0, 0, 0)).toArray) 8 8 Tryz.underlying57 hi0 hz0 hz1 hz2 rfl (by decide) _ _ _ rfl (HO6.out.alloc _) ⟨w5.heap.size + 1, 0, none⟩ 1 1 (idC (d0, d1, d2, d3, d4, d5, d6, d7)) rfl rfl D1.out D2.out D3.out D4.out D5.out ?_)
   intro v' wC hown' hgrow _
   have BW := Lib.hid (below_own (HB6.out.alloc HB6.out.size (.cells #[.int .u8 (d0 : Int), .int .u8 (d1 : Int), .int .u8 (d2 : Int), .int .u8 (d3 : Int), .int .u8 (d4 : Int), .int .u8 (d5 : Int), .int .u8 (d6 : Int), .int .u8 (d7 : Int)] 30)) hgrow D5.out (HO6.out.alloc _) (Nat.le_refl _))
   obtain ⟨oa2, oc2, rfl⟩ := own_formK hown'
   rw [← HEN.out] at hown'
   have OW := Lib.hid hown'
   clear hown' hgrow y0 y1 y2 y3 y4 y5 y6 y7
   go_wp2_with fail
   go_roundw
   case rel => exact ⟨i + 1, oa2, oc2, HLT.out, by go_num, rfl, OW, BW⟩
   case measure => simp [intOf]; have := HLT.out; omega
  ·
   have m1 : ¬ (i : Int) < (l.length : Int) := by omega
   obtain rfl : i = l.length := by omega
   have HO := Lib.hid HOR.out
   have hbr := HBR.out
   have ho := HOR.out
   rw [iofX, List.take_length] at ho
   have HB := Lib.hid hbr
   have HW := Lib.hid ho
   clear hbr ho HOR HBR HO
   go_wp2_with fail
   go_ret
   exact ⟨HB.out, oa, oc, rfl, HW.out⟩
end Go.Proofs.YtbfoonfbhebhfaaGreatDoor
