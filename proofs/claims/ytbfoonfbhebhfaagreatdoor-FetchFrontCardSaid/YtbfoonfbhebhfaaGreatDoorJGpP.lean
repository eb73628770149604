/- Joined: FetchF, FetchIx, FetchCyc, FetchFrontW, FrontOpen. -/
import Derived.Test.YtbfoonfbhebhfaaGreatDoorJGpM
import Derived.Test.YtbfoonfbhebhfaaGreatDoorJGoK
import Derived.Test.YtbfoonfbhebhfaaGreatDoorJGnU
import Derived.Lib.LazyBuf
import Derived.Test.YtbfoonfbhebhfaaGreatDoorJGnT
import Derived.Test.YtbfoonfbhebhfaaGreatDoorJGoJ
import Derived.Test.YtbfoonfbhebhfaaGreatDoorJGpI
import Derived.Test.YtbfoonfbhebhfaaGreatDoorJGpN
import Derived.Test.YtbfoonfbhebhfaaGreatDoorJGoR
import Derived.Test.YtbfoonfbhebhfaaGreatDoorJGoP
namespace Go.Proofs.YtbfoonfbhebhfaaGreatDoor
open Go.RowKit Plain Go.Maps
set_option linter.unusedVariables false
set_option linter.unusedSimpArgs false
def Rdc (l : List Bl) (x y : List Nat) : Prop := ∃ b, lkL l x = some b ∧ NdOk b ∧ y ∈ ndF b
abbrev Rch (l : List Bl) : List Nat → List Nat → Prop := Relation.TransGen (Rdc l)
def CycL (l : List Bl) : Prop := ∃ x, Rch l x x
theorem Rch.next {l : List Bl} {x : List Nat} (h : Rch l x x) : ∃ z, Rdc l x z ∧ Rch l z z := by
 have key : ∀ a b, Rch l a b → ∃ z, Rdc l a z ∧ (z = b ∨ Rch l z b) := by
  intro a b h
  induction h with
  | single h => exact ⟨_, h, .inl rfl⟩
  | tail _ h2 ih =>
   obtain ⟨z, h3, h4⟩ := ih
   refine ⟨z, h3, .inr ?_⟩
   rcases h4 with rfl | h4
   ·
    exact .single h2
   ·
    exact .tail h4 h2
 obtain ⟨z, h1, h2⟩ := key x x h
 refine ⟨z, h1, ?_⟩
 rcases h2 with rfl | h2
 ·
  exact h
 ·
  exact .tail h2 h1
structure InvV (hv : List (List Nat)) (S : List Nat → Prop) (st : VSt) : Prop where
 seen : ∀ x ∈ st.1, x ∈ hv ∨ x ∈ st.2.map pidL ∨ S x
 need : NeedN hv st.2
theorem run_front {hv : List (List Nat)} {S : List Nat → Prop} {f : List Nat → VSt → Option VSt} (p : List Nat → Prop)
  (hf : ∀ id st st', p id → f id st = some st' → InvV hv S st → InvV hv S st' ∧ id ∈ st'.1 ∧ ∀ x ∈ st.1, x ∈ st'.1) :
  ∀ (ks : List (List Nat)) (st st' : VSt), (∀ k ∈ ks, p k) → runL f ks st = some st' → InvV hv S st → InvV hv S st' ∧ (∀ k ∈ ks, k ∈ st'.1) ∧ ∀ x ∈ st.1, x ∈ st'.1
 | [], st, st', _, h, hi => by
  rw [runL] at h
  obtain rfl := Option.some.inj h
  exact ⟨hi, by simp, fun _ h => h⟩
 | k :: ks, st, st', hp, h, hi => by
  rw [runL] at h
  cases hk : f k st with
  | none => rw [hk] at h; cases h
  | some s2 =>
   rw [hk] at h
   obtain ⟨h1, h2, h3⟩ := hf k st s2 (hp k (by simp)) hk hi
   obtain ⟨g1, g2, g3⟩ := run_front p hf ks s2 st' (fun x hx => hp x (List.mem_cons_of_mem _ hx)) h h1
   refine ⟨g1, fun x hx => ?_, fun x hx => g3 x (h3 x hx)⟩
   rcases List.mem_cons.1 hx with rfl | hx
   ·
    exact g3 _ h2
   ·
    exact g2 x hx
theorem step_front {l : List Bl} {hv : List (List Nat)} (hc : ¬ CycL l) {f : List Nat → VSt → Option VSt}
  (hf : ∀ (S : List Nat → Prop) id st st', (∀ x, S x → Rch l x id) → f id st = some st' → InvV hv S st → InvV hv S st' ∧ id ∈ st'.1 ∧ ∀ x ∈ st.1, x ∈ st'.1)
  (S : List Nat → Prop) (id : List Nat) (st st' : VSt) (hS : ∀ x, S x → Rch l x id) (h : stepF (lkL l) f id st = some st') (hi : InvV hv S st) : InvV hv S st' ∧ id ∈ st'.1 ∧ ∀ x ∈ st.1, x ∈ st'.1 := by
 rcases stepF_inv h with ⟨h1, rfl⟩ | ⟨h1, b, s2, hb, hn, hr, rfl⟩
 ·
  exact ⟨hi, h1, fun _ h => h⟩
 ·
  have hid := (lkL_some hb).2
  have hi2 : InvV hv (fun x => S x ∨ x = id) (st.1 ++ [id], st.2) := by
   refine ⟨fun x hx => ?_, hi.need⟩
   rcases List.mem_append.1 hx with hx | hx
   ·
    rcases hi.seen x hx with h | h | h
    ·
     exact .inl h
    ·
     exact .inr (.inl h)
    ·
     exact .inr (.inr (.inl h))
   ·
    exact .inr (.inr (.inr (List.mem_singleton.1 hx)))
  obtain ⟨g1, g2, g3⟩ := run_front (fun k => k ∈ ndF b) (fun k s s' hk hs hv2 => hf (fun x => S x ∨ x = id) k s s' (fun x hx => by
   have hik : Rdc l id k := ⟨b, hb, hn, hk⟩
   rcases hx with hx | rfl
   ·
    exact .tail (hS x hx) hik
   ·
    exact .single hik) hs hv2) (ndF b) _ s2 (fun _ h => h) hr hi2
  refine ⟨⟨fun x hx => ?_, .snoc g1.need fun n hn2 => ?_⟩, g3 id (by simp), fun x hx => g3 x (List.mem_append_left _ hx)⟩
  ·
   show x ∈ hv ∨ x ∈ (s2.2 ++ [b]).map pidL ∨ S x
   rw [List.map_append, List.mem_append]
   rcases g1.seen x hx with h | h | h | h
   ·
    exact .inl h
   ·
    exact .inr (.inl (.inl h))
   ·
    exact .inr (.inr h)
   ·
    exact .inr (.inl (.inr (by rw [h, ← hid]; simp)))
  ·
   have hik : Rdc l id n := ⟨b, hb, hn, hn2⟩
   rcases g1.seen n (g2 n hn2) with h | h | h | h
   ·
    exact .inl h
   ·
    exact .inr h
   ·
    exact absurd ⟨n, .tail (hS n h) hik⟩ hc
   ·
    subst h
    exact absurd ⟨n, .single hik⟩ hc
theorem visit_front {l : List Bl} {hv : List (List Nat)} (hc : ¬ CycL l) : ∀ (n : Nat) (S : List Nat → Prop) (id : List Nat) (st st' : VSt), (∀ x, S x → Rch l x id) → visitF (lkL l) n id st = some st' → InvV hv S st → InvV hv S st' ∧ id ∈ st'.1 ∧ ∀ x ∈ st.1, x ∈ st'.1
 | 0, S, id, st, st', hS, h, hi => by
  exact step_front hc (f := fun _ _ => none) (fun _ _ _ _ _ h => by cases h) S id st st' hS h hi
 | n + 1, S, id, st, st', hS, h, hi => step_front hc (fun S2 id2 s s2 a b c => visit_front hc n S2 id2 s s2 a b c) S id st st' hS h hi
def OutOk (l : List Bl) (st : VSt) : Prop := ∀ b ∈ st.2, NdOk b ∧ b ∈ l
theorem run_out {l : List Bl} {f : List Nat → VSt → Option VSt} (hf : ∀ id st st', f id st = some st' → OutOk l st → OutOk l st') : ∀ (ks : List (List Nat)) (st st' : VSt), runL f ks st = some st' → OutOk l st → OutOk l st'
 | [], st, st', h, hi => by
  rw [runL] at h
  obtain rfl := Option.some.inj h
  exact hi
 | k :: ks, st, st', h, hi => by
  rw [runL] at h
  cases hk : f k st with
  | none => rw [hk] at h; cases h
  | some s2 => rw [hk] at h; exact run_out hf ks s2 st' h (hf k st s2 hk hi)
theorem step_out {l : List Bl} {f : List Nat → VSt → Option VSt} (hf : ∀ id st st', f id st = some st' → OutOk l st → OutOk l st') (id : List Nat) (st st' : VSt) (h : stepF (lkL l) f id st = some st') (hi : OutOk l st) : OutOk l st' := by
 rcases stepF_inv h with ⟨_, rfl⟩ | ⟨_, b, s2, hb, hn, hr, rfl⟩
 ·
  exact hi
 ·
  intro c hc
  have hc : c ∈ s2.2 ++ [b] := hc
  rcases List.mem_append.1 hc with hc | hc
  ·
   exact run_out hf _ (st.1 ++ [id], st.2) s2 hr hi c hc
  ·
   rw [List.mem_singleton] at hc
   subst hc
   exact ⟨hn, (lkL_some hb).1⟩
theorem visit_out {l : List Bl} : ∀ (n : Nat) (id : List Nat) (st st' : VSt), visitF (lkL l) n id st = some st' → OutOk l st → OutOk l st'
 | 0, id, st, st', h, hi => step_out (f := fun _ _ => none) (fun _ _ _ h => by cases h) id st st' h hi
 | n + 1, id, st, st', h, hi => step_out (visit_out n) id st st' h hi
theorem plan_out {l : List Bl} {hv rs : List (List Nat)} {seen : List (List Nat)} {N : List Bl} (h : planF l hv rs = some (seen, N)) : ∀ b ∈ N, NdOk b ∧ b ∈ l := run_out (visit_out 1000) rs (ddp hv, []) (seen, N) h (by intro b hb; cases hb)
theorem plan_front {l : List Bl} {hv rs : List (List Nat)} {seen : List (List Nat)} {N : List Bl} (hc : ¬ CycL l) (h : planF l hv rs = some (seen, N)) : NeedN hv N :=
 (run_front (S := fun _ => False) (fun _ => True) (fun id st st' _ hs hi => visit_front hc 1000 _ id st st' (fun x hx => hx.elim) hs hi) rs (ddp hv, []) (seen, N) (fun _ _ => trivial) h ⟨fun x hx => .inl ((ddp_mem _ _).1 hx), .nil⟩).1.need
theorem IntoR.mem {h m O : List Bl} (g : IntoR h m O) : (∀ b ∈ h, b ∈ O) ∧ ∀ b ∈ m, ∃ d ∈ O, pidL d = pidL b := by
 induction g with
 | nil => exact ⟨fun _ h => h, by simp⟩
 | @skip m O b _ _ h3 ih =>
  refine ⟨ih.1, fun c hc => ?_⟩
  rcases List.mem_append.1 hc with hc | hc
  ·
   exact ih.2 c hc
  ·
   rw [List.mem_singleton] at hc
   subst hc
   exact ⟨_, (lkL_some h3).1, rfl⟩
 | @add m O b _ _ _ _ _ _ ih =>
  refine ⟨fun c hc => List.mem_append_left _ (ih.1 c hc), fun c hc => ?_⟩
  rcases List.mem_append.1 hc with hc | hc
  ·
   obtain ⟨d, hd, e⟩ := ih.2 c hc
   exact ⟨d, List.mem_append_left _ hd, e⟩
  ·
   rw [List.mem_singleton] at hc
   subst hc
   exact ⟨_, by simp, rfl⟩
theorem IntoR.closed {h m O : List Bl} (g : IntoR h m O) (hh : ClosedL h) : ClosedL O := by
 induction g with
 | nil => exact hh
 | skip _ _ _ ih => exact ih
 | @add m O b _ _ _ h4 h5 _ ih =>
  intro c hc
  rcases List.mem_append.1 hc with hc | hc
  ·
   refine ⟨(ih c hc).1, fun n hn => ?_⟩
   obtain ⟨d, hd, e⟩ := (ih c hc).2 n hn
   exact ⟨d, List.mem_append_left _ hd, e⟩
  ·
   rw [List.mem_singleton] at hc
   subst hc
   refine ⟨h4, fun n hn => ?_⟩
   obtain ⟨d, hd, e⟩ := h5 n hn
   exact ⟨d, List.mem_append_left _ hd, e⟩
theorem take_snoc_mem {α : Type} {l : List α} {i : Nat} {b : α} (e : l.take (i + 1) = l.take i ++ [b]) : b ∈ l := List.mem_of_mem_take (i := i + 1) (by rw [e]; simp)
theorem into_front {h l N : List Bl} {rs : List (List Nat)} {seen : List (List Nat)} {c : Int} (k : Nat) (hz : h.length ≤ 1000) (hcons : Cons h) (hp : planF l (h.map pidL) rs = some (seen, N)) (hb : IntoBad h (N.take k) c) : c = 11 ∨ c = 2 ∨ (c = 9 ∧ CycL l) := by
 have ho := plan_out hp
 rcases hb with h1 | h1 | ⟨i, b, O, e, hr, h1⟩
 ·
  omega
 ·
  exact absurd hcons h1
 ·
  have hbN : b ∈ N := List.mem_of_mem_take (take_snoc_mem e)
  have hbo := (ho b hbN).1
  rcases h1 with h1 | ⟨o, _, _, h1⟩ | ⟨h2, _, h3, h1⟩ | h1 | ⟨_, h1⟩
  ·
   exact absurd hbo.1 h1
  ·
   exact .inl h1
  ·
   refine .inr (.inr ⟨h1, ?_⟩)
   refine Classical.byContradiction fun hc => h3 fun n hn => ?_
   have hnd := plan_front hc hp
   have hnk : NeedN (h.map pidL) (N.take k) := NeedN.pre (N.drop k) _ (by rw [List.take_append_drop]; exact hnd)
   have hni : NeedN (h.map pidL) ((N.take k).take (i + 1)) := NeedN.pre ((N.take k).drop (i + 1)) _ (by rw [List.take_append_drop]; exact hnk)
   have hm := hr.mem
   rcases (hni.inv e).2 n hn with h4 | h4
   ·
    obtain ⟨d, hd, e⟩ := List.mem_map.1 h4
    exact ⟨d, hm.1 d hd, e⟩
   ·
    obtain ⟨d, hd, e⟩ := List.mem_map.1 h4
    obtain ⟨d2, hd2, e2⟩ := hm.2 d hd
    exact ⟨d2, hd2, e2.trans e⟩
  ·
   exact absurd hbo h1
  ·
   exact .inr (.inl h1)
def KidOk (l : List Bl) (b : Bl) (K : List Int) : Prop := (∀ k ∈ K, 0 ≤ k ∧ k < l.length) ∧ (NdOk b → ∀ n ∈ ndF b, n ∈ l.map pidL → ∃ k ∈ K, (l.map pidL)[k.toNat]? = some n)
def CX (l : List Bl) (i : Nat) : Prop := ∃ hi : i < l.length, Rch l (pidL l[i]) (pidL l[i])
theorem CX.kid {l : List Bl} (hc : Cons l) {i : Nat} (h : CX l i) (hi : i < l.length) {K : List Int} (hk : KidOk l l[i] K) : ∃ j ∈ K, CX l j.toNat := by
 obtain ⟨_, h1⟩ := h
 obtain ⟨z, ⟨b, hb, hn, hz⟩, h3⟩ := h1.next
 have hbi : l[i] = b := by
  have := hc.lk (List.getElem_mem hi)
  rw [hb] at this
  exact (Option.some.inj this).symm
 obtain ⟨y, ⟨b2, hb2, _, _⟩, _⟩ := h3.next
 obtain ⟨hm, e⟩ := lkL_some hb2
 rw [hbi] at hk
 obtain ⟨j, hj, hjz⟩ := hk.2 hn z hz (List.mem_map.2 ⟨b2, hm, e⟩)
 obtain ⟨hjl, hje⟩ := List.getElem?_eq_some_iff.1 hjz
 have hjl2 : j.toNat < l.length := by simpa using hjl
 refine ⟨j, hj, hjl2, ?_⟩
 have : pidL l[j.toNat] = z := by simpa using hje
 rw [this]
 exact h3
theorem CycL.cx {l : List Bl} (h : CycL l) : ∃ i, CX l i := by
 obtain ⟨x, hx⟩ := h
 obtain ⟨_, ⟨b, hb, _, _⟩, _⟩ := hx.next
 obtain ⟨hm, e⟩ := lkL_some hb
 obtain ⟨i, hi, e2⟩ := List.mem_iff_getElem.1 hm
 refine ⟨i, hi, ?_⟩
 rw [e2, e]
 exact hx
end Go.Proofs.YtbfoonfbhebhfaaGreatDoor
namespace Go.Proofs.YtbfoonfbhebhfaaGreatDoor
open Go.RowKit Plain Go.Maps Go.ChangeMaps
set_option linter.unusedVariables false
set_option linter.unusedSimpArgs false
def niC (k : Int) : List Value := [.int .i64 k]
theorem niC_length (k : Int) : (niC k).length = 1 := rfl
abbrev KE := Option Addr × Nat × List Int
def keC (e : KE) : List Value := [.slice e.1 e.2.2.length e.2.1]
theorem keC_length (e : KE) : (keC e).length = 1 := rfl
def KO (w : World) (base : Nat) (e : KE) : Prop := w.ownsRow base 3 1 (.slice e.1 e.2.2.length e.2.1) e.2.2.length (e.2.2.flatMap niC) ∧ (e.2.2 = [] → e = (none, 0, []))
theorem KO.addr_ {w : World} {base : Nat} {e : KE} (h : KO w base e) (hn : e.2.2 ≠ []) : ∃ g c L, e = (some ⟨g, 0, none⟩, c, L) ∧ L ≠ [] := by
 obtain ⟨a, c, L⟩ := e
 rcases h.1.2 with ⟨_, h0⟩ | ⟨g, cap, cur, hv, _⟩
 ·
  exact absurd (List.eq_nil_of_length_eq_zero h0) hn
 ·
  injection hv with h1 h2 h3
  have h1 : a = _ := h1
  exact ⟨g, c, L, by rw [h1], hn⟩
theorem KO.nil {w : World} {base : Nat} : KO w base (none, 0, []) := ⟨World.ownsRow_nil _ _ _ _, fun _ => rfl⟩
def nzB (e : KE) : Bool := !e.2.2.isEmpty
theorem nzB_iff (e : KE) : nzB e = true ↔ e.2.2 ≠ [] := by
 unfold nzB
 cases e.2.2 <;> simp
theorem sat_ke {w : World} {a : Option Addr} {l : List KE} (h : SAt 1 keC w a l) (i : Nat) (hi : i < l.length) : ∃ g off, a = some ⟨g, off, none⟩ ∧ g < w.heap.size ∧ w.cell? ⟨g, off + i, none⟩ = some (.slice l[i].1 l[i].2.2.length l[i].2.1) := by
 obtain ⟨g, off, e, hg, hr⟩ := h i hi
 have := hr 0 _ rfl
 exact ⟨g, off, e, hg, by rwa [Nat.mul_one, Nat.add_zero] at this⟩
theorem sat_ni {w : World} {a : Option Addr} {l : List Int} (h : SAt 1 niC w a l) (i : Nat) (hi : i < l.length) : ∃ g off, a = some ⟨g, off, none⟩ ∧ g < w.heap.size ∧ w.cell? ⟨g, off + i, none⟩ = some (.int .i64 l[i]) := by
 obtain ⟨g, off, e, hg, hr⟩ := h i hi
 have := hr 0 _ rfl
 exact ⟨g, off, e, hg, by rwa [Nat.mul_one, Nat.add_zero] at this⟩
def BX2 (B : Nat) (ka : Option Addr) (kc : Nat) (es : List KE) (w : World) : Prop := w.heap[B]? = some (.cells #[.slice ka es.length kc] 142 (0, 0)) ∧ SAt 1 keC w ka es
theorem BX2.below {B : Nat} {ka : Option Addr} {kc : Nat} {es : List KE} {w u : World} (h : BX2 B ka kc es w) (hb : Below w.heap.size w u) : BX2 B ka kc es u := ⟨(hb.block _ (lt_of_blockW h.1)).trans h.1, h.2.below hb⟩
def kidB (es : List KE) (k : Int) : Bool := match es[k.toNat]? with
 | some e => nzB e
 | none => false
set_option maxRecDepth 100000 in
theorem kid_any {base B : Nat} {ka : Option Addr} {kc : Nat} {es : List KE} (w : World) (h : BX2 B ka kc es w) (hko : ∀ e ∈ es, ∃ u : World, KO u base e) (k : Int) (h0 : 0 ≤ k) (h1 : k < es.length) :
  Calls Tryz.prog 79 #[.int .i64 k, .pointer (some ⟨B, 0, none⟩)] w fun e w' => e = .returned (.bool (kidB es k)) ∧ Below w.heap.size w w' := by
 obtain ⟨n, rfl⟩ := Int.eq_ofNat_of_zero_le h0
 have hn : n < es.length := by omega
 have c0 := cell_of_row w B 0 _ _ _ h.1
 simp only [List.getElem?_toArray, List.getElem?_cons_zero] at c0
 have HW : Hid (kidB es (n : Int) = nzB es[n]) := Lib.hid (by unfold kidB; rw [Int.toNat_natCast, List.getElem?_eq_getElem hn])
 obtain ⟨g, off, rfl, hg, hc⟩ := sat_ke h.2 n hn
 obtain ⟨u, hu⟩ := hko _ (List.getElem_mem hn)
 generalize es[n] = e at *
 by_cases he : e.2.2 = []
 ·
  obtain rfl := hu.2 he
  have HE : Hid (kidB es (n : Int) = false) := Lib.hid HW.out
  have hq := fun u : World => run_neq_slice_nil (P := Tryz.prog) u 143 3 none 0 0 Tryz.underlying143
  go_enter Tryz.func79, Tryz.ntmps79
  go_wp2_with fail
  go_ret
  rw [HE.out]
  exact ⟨rfl, Below.refl _ _⟩
 ·
  obtain ⟨gg, cc, L, rfl, hL⟩ := hu.addr_ he
  have HE : Hid (kidB es (n : Int) = true) := Lib.hid (by rw [HW.out, nzB_iff]; exact hL)
  have hq := fun u : World => run_neq_slice_nil (P := Tryz.prog) u 143 3 (some ⟨gg, 0, none⟩) L.length cc Tryz.underlying143
  go_enter Tryz.func79, Tryz.ntmps79
  go_wp2_with fail
  go_ret
  rw [HE.out]
  exact ⟨rfl, Below.refl _ _⟩
set_option maxRecDepth 100000 in
set_option maxHeartbeats 2000000 in
theorem indexIdAt_any (a : Option Addr) (cap : Nat) (l : List (List Nat)) (p : List Nat) (hp : p.length = 8) (hk : IdsL l) (w : World) (h : SAt 8 idK w a l) (hl : l.length ≤ 9223372036854775807) :
  Calls Tryz.prog 77 #[.slice a l.length cap, .agg (idK p).toArray] w fun e w' => ((∃ i : Nat, e = .returned (.int .i64 (i : Int)) ∧ l[i]? = some p) ∨ (e = .returned (.int .i64 (-1)) ∧ p ∉ l)) ∧ Below w.heap.size w w' := by
 have HS := Lib.hid h
 have HB0 := Lib.hid ((Below.refl w.heap.size w).alloc (Nat.le_refl _) (.cells (idK p).toArray 30))
 have HR0 := Lib.hid (heap_alloc_new w (.cells (idK p).toArray 30))
 have hu := Tryz.underlying30
 have ICZ : Hid ((Tryz.prog.info? 30).map (·.size) = some 8) := Lib.hid (by show _ = _; kernel_rfl)
 have HPL : Hid ((idK p).length = 8) := Lib.hid (sizeK_id p hp)
 have HEQ := Lib.hid fun (q : List Nat) (hq : q.length = 8) => eqK_id p q hp hq
 have HP : Hid (p = p) := Lib.hid rfl
 have HK := Lib.hid hk
 generalize hpc : idK p = pc at *
 clear h hpc
 go_enter Tryz.func77, Tryz.ntmps77
 go_wp2_with fail
 generalize w.alloc (.cells pc.toArray 30) = w1 at *
 go_loopw [8] (fun iv wr => ∃ k : Nat, k ≤ l.length ∧ iv = .int .i64 (k : Int) ∧ (∀ j (h : j < l.length), j < k → l[j] ≠ p) ∧ wr.heap[w.heap.size]? = some (.cells pc.toArray 30 (0, 0)) ∧ Below w.heap.size w wr) (fun iv _ => l.length - (intOf iv).toNat)
 case atStart => exact ⟨0, Nat.zero_le _, rfl, fun j h hj => absurd hj (Nat.not_lt_zero _), HR0.out, HB0.out⟩
 case round =>
  obtain ⟨k, hk, rfl, hno, hrow, hbx⟩ := hrel
  have HNO := Lib.hid hno
  have HROW := Lib.hid hrow
  have HBX := Lib.hid hbx
  clear hno hrow hbx HB0 HR0
  by_cases hlt : k < l.length
  ·
   have kk : (k : Int) < (l.length : Int) := by omega
   have k0 : (0 : Int) ≤ (k : Int) := Int.natCast_nonneg _
   obtain ⟨g, off, rfl, hg, hrng⟩ := (HS.out.below HBX.out) k hlt
   have HRG := Lib.hid hrng
   have HSTEP : Hid (l[k] ≠ p → ∀ j (h : j < l.length), j < k + 1 → l[j] ≠ p) := fun hne j h hj => by
    rcases Nat.lt_or_ge j k with h1 | h1
    ·
     exact HNO.out j h h1
    ·
     obtain rfl : j = k := by omega
     exact hne
   have HMEM : Hid (l[k] ∈ l) := Lib.hid (List.getElem_mem hlt)
   have HAT : Hid (l[k]? = some l[k]) := Lib.hid (List.getElem?_eq_getElem hlt)
   generalize hq : l[k] = q at *
   obtain ⟨E1, E3⟩ := HEQ.out q (HK.out q HMEM.out)
   have HQL : Hid ((idK q).length = 8) := Lib.hid (sizeK_id q (HK.out q HMEM.out))
   obtain ⟨b, hb⟩ : ∃ b, decide (p = q) = b := ⟨_, rfl⟩
   rw [hb] at E1
   have HBB : Hid (b = true ↔ p = q) := Lib.hid (by rw [← hb, decide_eq_true_iff])
   generalize hqc : idK q = qc at *
   have HE1 := Lib.hid E1
   have HE3 := Lib.hid E3
   have ic1 : (Tryz.prog.info? 30).map (·.size) = some pc.length := by rw [HPL.out]; exact ICZ.out
   have ic2 : (Tryz.prog.info? 30).map (·.size) = some qc.length := by rw [HQL.out]; exact ICZ.out
   clear hrng hq hb E1 E3 hqc HEQ
   go_wp2_with fail
   refine wp_region_noPanic ?_
   refine wp_region_held_drew (S := fun w' => w'.rangeAt w.heap.size 0 pc ∧ w'.rangeAt g (off + k * 8) qc) (by kernel_rfl) ⟨row_rangeI (show wr.drew.heap[w.heap.size]? = _ from HROW.out), HRG.out⟩ (fun hS0 => ?_)
   have HS0 := Lib.hid hS0
   have HR1 : Hid (wr.drew.heap[w.heap.size]? = some (.cells pc.toArray 30 (0, 0))) := HROW.out
   have HB1 : Hid (Below w.heap.size w wr.drew) := HBX.out.drew
   clear hS0 HROW HBX
   generalize wr.drew = v0 at *
   refine take_row 0 rfl (by kernel_rfl) (by kernel_rfl) (by kernel_rfl) (fun _ _ _ _ h => h) (by rfl) rfl rfl rfl (fun _ hS => hS.1) hu rfl ic1 HS0.out ?_
   try simp only [List.set_cons_zero, List.set_cons_succ]
   refine take_val 1 (.slice (some ⟨g, off, none⟩) l.length cap) rfl (by kernel_rfl) (by kernel_rfl) (by kernel_rfl) (fun _ _ _ _ h => h) (by rfl) rfl (fun w _ => by go_simp) HS0.out ?_
   try simp only [List.set_cons_zero, List.set_cons_succ]
   refine take_val 2 (.int .i64 (k : Int)) rfl (by kernel_rfl) (by kernel_rfl) (by kernel_rfl) (fun _ _ _ _ h => h) (by rfl) rfl (fun w _ => by go_simp) HS0.out ?_
   try simp only [List.set_cons_zero, List.set_cons_succ]
   refine take_val 3 (.pointer (some ⟨g, off + k * 8, none⟩)) rfl (by kernel_rfl) (by kernel_rfl) (by kernel_rfl) (fun _ _ _ _ h => h) (by rfl) rfl (fun w _ => by go_simp) HS0.out ?_
   try simp only [List.set_cons_zero, List.set_cons_succ]
   refine take_row 4 rfl (by kernel_rfl) (by kernel_rfl) (by kernel_rfl) (fun _ _ _ _ h => h) (by rfl) rfl rfl rfl (fun _ hS => hS.2) hu rfl ic2 HS0.out ?_
   try simp only [List.set_cons_zero, List.set_cons_succ]
   refine take_val 5 (.bool b) rfl (by kernel_rfl) (by kernel_rfl) (by kernel_rfl) (fun _ _ _ _ h => h) (by rfl) rfl (fun w _ => val_binX rfl rfl rfl (HE1.out w) (HE3.out _ _ _ w)) HS0.out ?_
   try simp only [List.set_cons_zero, List.set_cons_succ]
   refine wpAnyH_done (by kernel_rfl) ?_ _
   refine NoPanic.normal ?_
   cases b with
   | true =>
    have HIN : Hid (l[k]? = some p) := Lib.hid (by rw [HBB.out.1 rfl]; exact HAT.out)
    clear HBB
    go_wp2_with fail
    go_ret
    exact ⟨.inl ⟨k, rfl, HIN.out⟩, HB1.out⟩
   | false =>
    have HN := Lib.hid (HSTEP.out (fun h => by have := HBB.out.2 h.symm; cases this))
    clear HBB HSTEP
    go_wp2_with fail
    go_roundw
    case rel => exact ⟨k + 1, by omega, by go_num, HN.out, HR1.out, HB1.out⟩
    case measure => simp [intOf]; omega
  ·
   have kk : ¬ (k : Int) < (l.length : Int) := by omega
   have HNI : Hid (p ∉ l) := Lib.hid fun hm => by
    obtain ⟨j, hj, e⟩ := List.mem_iff_getElem.1 hm
    exact HNO.out j hj (by omega) e
   go_wp2_with fail
   go_ret
   exact ⟨.inr ⟨rfl, HNI.out⟩, HBX.out⟩
def IdxN (p : Int → Bool) (l : List Int) (w0 : World) (e : Ending) (w : World) : Prop := ∃ r : Int, e = .returned (.int .i64 r) ∧ Below w0.heap.size w0 w ∧ -1 ≤ r ∧ r ≤ 9223372036854775807 ∧ ((r = -1 ∧ ∀ x ∈ l, p x = false) ∨ (0 ≤ r ∧ ∃ x ∈ l, p x = true))
set_option maxRecDepth 100000 in
theorem indexKid_any (p : Int → Bool) (B : Nat) (a : Option Addr) (cap : Nat) (l : List Int) (w : World) (hp : ∀ n ∈ l, ∀ wx, Below w.heap.size w wx → Calls Tryz.prog 79 #[.int .i64 n, .pointer (some ⟨B, 0, none⟩)] wx fun e w' => e = .returned (.bool (p n)) ∧ Below wx.heap.size wx w') (h : SAt 1 niC w a l) (hl : l.length ≤ 9223372036854775807) :
  Calls Tryz.prog 100 #[.slice a l.length cap, .func (Fn.func 79) #[] #[.pointer (some ⟨B, 0, none⟩)]] w (IdxN p l w) := by
 have HP := Lib.hid hp
 have HS := Lib.hid h
 clear hp h
 go_enter Tryz.func100, Tryz.ntmps100
 go_wp2_with fail
 go_loopw [8] (fun iv wr => ∃ i : Nat, i ≤ l.length ∧ iv = .int .i64 (i : Int) ∧ Below w.heap.size w wr ∧ ∀ x ∈ l.take i, p x = false) (fun iv _ => l.length - (intOf iv).toNat)
 case atStart => exact ⟨0, by omega, rfl, Below.refl _ _, by simp⟩
 case round =>
  obtain ⟨i, hi, rfl, hbr, hall⟩ := hrel
  have HBR := Lib.hid hbr
  have HALL := Lib.hid hall
  clear hbr hall
  by_cases hlt : i < l.length
  ·
   have m1 : (i : Int) < (l.length : Int) := by omega
   obtain ⟨g, off, rfl, hg, hr⟩ := sat_ni (HS.out.below HBR.out) i hlt
   have HMEM : Hid (l[i] ∈ l) := List.getElem_mem hlt
   have HST : Hid (p l[i] = false → ∀ x ∈ l.take (i + 1), p x = false) := fun h x hx => by
    rw [List.take_succ_eq_append_getElem hlt] at hx
    rcases List.mem_append.1 hx with hx | hx
    ·
     exact HALL.out x hx
    ·
     simp only [List.mem_singleton] at hx; rw [hx]; exact h
   generalize l[i] = t at *
   have HPT := Lib.hid (HP.out t HMEM.out wr HBR.out)
   clear hg
   cases hq : p t with
   | true =>
    rw [hq] at HPT
    have HQ := Lib.hid hq
    clear hq
    go_wp2_with fail
    refine HPT.out.mono ?_
    rintro e w' ⟨rfl, hb'⟩
    have HB' := Lib.hid (Below.step HBR.out hb')
    clear hb'
    go_wp2_with fail
    go_ret
    exact ⟨(i : Int), rfl, HB'.out, by omega, by omega, .inr ⟨by omega, t, HMEM.out, HQ.out⟩⟩
   | false =>
    rw [hq] at HPT
    have HQ := Lib.hid (HST.out hq)
    clear hq
    go_wp2_with fail
    refine HPT.out.mono ?_
    rintro e w' ⟨rfl, hb'⟩
    have HB' := Lib.hid (Below.step HBR.out hb')
    clear hb'
    go_wp2_with fail
    go_roundw
    case rel => exact ⟨i + 1, by omega, by go_num, HB'.out, HQ.out⟩
    case measure => simp [intOf]; omega
  ·
   have m1 : ¬ (i : Int) < (l.length : Int) := by omega
   have HE : Hid (∀ x ∈ l, p x = false) := by
    have h := HALL.out
    rwa [List.take_of_length_le (by omega)] at h
   go_wp2_with fail
   go_ret
   exact ⟨-1, rfl, HBR.out, by omega, by omega, .inl ⟨rfl, HE.out⟩⟩
theorem containsKid_any (p : Int → Bool) (B : Nat) (a : Option Addr) (cap : Nat) (l : List Int) (w : World) (hp : ∀ n ∈ l, ∀ wx, Below w.heap.size w wx → Calls Tryz.prog 79 #[.int .i64 n, .pointer (some ⟨B, 0, none⟩)] wx fun e w' => e = .returned (.bool (p n)) ∧ Below wx.heap.size wx w') (h : SAt 1 niC w a l) (hl : l.length ≤ 9223372036854775807) :
  Calls Tryz.prog 78 #[.slice a l.length cap, .func (Fn.func 79) #[] #[.pointer (some ⟨B, 0, none⟩)]] w fun e w' => e = .returned (.bool (l.any p)) ∧ Below w.heap.size w w' := by
 have HI := Lib.hid (indexKid_any p B a cap l w hp h hl)
 clear hp h
 go_enter Tryz.func78, Tryz.ntmps78
 go_wp2_with fail
 refine HI.out.mono ?_
 rintro e w' ⟨r, rfl, hb, h1, h2, hr⟩
 rcases hr with ⟨rfl, hr⟩ | ⟨h0, x, hx, hr⟩
 ·
  have HR : Hid (l.any p = false) := by show _ = _; rw [List.any_eq_false]; intro x hx; simp [hr x hx]
  clear hr
  go_wp2_with fail
  go_ret
  exact ⟨by rw [HR.out]; rfl, hb⟩
 ·
  have HR : Hid (l.any p = true) := List.any_eq_true.2 ⟨x, hx, hr⟩
  clear hr
  go_wp2_with fail
  go_ret
  exact ⟨by rw [HR.out]; rfl, hb⟩
def IdxL (p : KE → Bool) (l : List KE) (w0 : World) (e : Ending) (w : World) : Prop := ∃ r : Int, e = .returned (.int .i64 r) ∧ Below w0.heap.size w0 w ∧ -1 ≤ r ∧ r ≤ 9223372036854775807 ∧ ((r = -1 ∧ ∀ x ∈ l, p x = false) ∨ (0 ≤ r ∧ ∃ x ∈ l, p x = true))
set_option maxRecDepth 100000 in
theorem indexLs_any (p : KE → Bool) (a : Option Addr) (cap : Nat) (l : List KE) (w : World) (hp : ∀ n ∈ l, ∀ wx, Below w.heap.size w wx → Calls Tryz.prog 81 #[.slice n.1 n.2.2.length n.2.1] wx fun e w' => e = .returned (.bool (p n)) ∧ Below wx.heap.size wx w') (h : SAt 1 keC w a l) (hl : l.length ≤ 9223372036854775807) :
  Calls Tryz.prog 101 #[.slice a l.length cap, .func (Fn.func 81) #[] #[]] w (IdxL p l w) := by
 have HP := Lib.hid hp
 have HS := Lib.hid h
 clear hp h
 go_enter Tryz.func101, Tryz.ntmps101
 go_wp2_with fail
 go_loopw [8] (fun iv wr => ∃ i : Nat, i ≤ l.length ∧ iv = .int .i64 (i : Int) ∧ Below w.heap.size w wr ∧ ∀ x ∈ l.take i, p x = false) (fun iv _ => l.length - (intOf iv).toNat)
 case atStart => exact ⟨0, by omega, rfl, Below.refl _ _, by simp⟩
 case round =>
  obtain ⟨i, hi, rfl, hbr, hall⟩ := hrel
  have HBR := Lib.hid hbr
  have HALL := Lib.hid hall
  clear hbr hall
  by_cases hlt : i < l.length
  ·
   have m1 : (i : Int) < (l.length : Int) := by omega
   obtain ⟨g, off, rfl, hg, hr⟩ := sat_ke (HS.out.below HBR.out) i hlt
   have HMEM : Hid (l[i] ∈ l) := List.getElem_mem hlt
   have HST : Hid (p l[i] = false → ∀ x ∈ l.take (i + 1), p x = false) := fun h x hx => by
    rw [List.take_succ_eq_append_getElem hlt] at hx
    rcases List.mem_append.1 hx with hx | hx
    ·
     exact HALL.out x hx
    ·
     simp only [List.mem_singleton] at hx; rw [hx]; exact h
   generalize l[i] = t at *
   have HPT := Lib.hid (HP.out t HMEM.out wr HBR.out)
   clear hg
   cases hq : p t with
   | true =>
    rw [hq] at HPT
    have HQ := Lib.hid hq
    clear hq
    go_wp2_with fail
    refine HPT.out.mono ?_
    rintro e w' ⟨rfl, hb'⟩
    have HB' := Lib.hid (Below.step HBR.out hb')
    clear hb'
    go_wp2_with fail
    go_ret
    exact ⟨(i : Int), rfl, HB'.out, by omega, by omega, .inr ⟨by omega, t, HMEM.out, HQ.out⟩⟩
   | false =>
    rw [hq] at HPT
    have HQ := Lib.hid (HST.out hq)
    clear hq
    go_wp2_with fail
    refine HPT.out.mono ?_
    rintro e w' ⟨rfl, hb'⟩
    have HB' := Lib.hid (Below.step HBR.out hb')
    clear hb'
    go_wp2_with fail
    go_roundw
    case rel => exact ⟨i + 1, by omega, by go_num, HB'.out, HQ.out⟩
    case measure => simp [intOf]; omega
  ·
   have m1 : ¬ (i : Int) < (l.length : Int) := by omega
   have HE : Hid (∀ x ∈ l, p x = false) := by
    have h := HALL.out
    rwa [List.take_of_length_le (by omega)] at h
   go_wp2_with fail
   go_ret
   exact ⟨-1, rfl, HBR.out, by omega, by omega, .inl ⟨rfl, HE.out⟩⟩
theorem containsLs_any (p : KE → Bool) (a : Option Addr) (cap : Nat) (l : List KE) (w : World) (hp : ∀ n ∈ l, ∀ wx, Below w.heap.size w wx → Calls Tryz.prog 81 #[.slice n.1 n.2.2.length n.2.1] wx fun e w' => e = .returned (.bool (p n)) ∧ Below wx.heap.size wx w') (h : SAt 1 keC w a l) (hl : l.length ≤ 9223372036854775807) :
  Calls Tryz.prog 80 #[.slice a l.length cap, .func (Fn.func 81) #[] #[]] w fun e w' => e = .returned (.bool (l.any p)) ∧ Below w.heap.size w w' := by
 have HI := Lib.hid (indexLs_any p a cap l w hp h hl)
 clear hp h
 go_enter Tryz.func80, Tryz.ntmps80
 go_wp2_with fail
 refine HI.out.mono ?_
 rintro e w' ⟨r, rfl, hb, h1, h2, hr⟩
 rcases hr with ⟨rfl, hr⟩ | ⟨h0, x, hx, hr⟩
 ·
  have HR : Hid (l.any p = false) := by show _ = _; rw [List.any_eq_false]; intro x hx; simp [hr x hx]
  clear hr
  go_wp2_with fail
  go_ret
  exact ⟨by rw [HR.out]; rfl, hb⟩
 ·
  have HR : Hid (l.any p = true) := List.any_eq_true.2 ⟨x, hx, hr⟩
  clear hr
  go_wp2_with fail
  go_ret
  exact ⟨by rw [HR.out]; rfl, hb⟩
set_option maxRecDepth 100000 in
theorem ls_any (e : KE) (w : World) : Calls Tryz.prog 81 #[.slice e.1 e.2.2.length e.2.1] w fun r w' => r = .returned (.bool (nzB e)) ∧ Below w.heap.size w w' := by
 have HN : Hid (decide (0 < e.2.2.length) = nzB e) := Lib.hid (by
  unfold nzB
  cases e.2.2 with
  | nil => rfl
  | cons x l => simp)
 obtain ⟨a, c, L⟩ := e
 go_enter Tryz.func81, Tryz.ntmps81
 go_wp2_with fail
 go_ret
 exact ⟨by rw [← HN.out]; rfl, Below.refl _ _⟩
end Go.Proofs.YtbfoonfbhebhfaaGreatDoor
namespace Go.Proofs.YtbfoonfbhebhfaaGreatDoor
open Go.RowKit Plain Go.Maps Go.ChangeMaps
set_option linter.unusedVariables false
set_option linter.unusedSimpArgs false
theorem info_niF : (Tryz.prog.info? 3).map (fun i => (i.zero, i.size, i.bytes)) = some (some (.int .i64 0), 1, 8) := by kernel_rfl
theorem info_lsF : (Tryz.prog.info? 143).map (fun i => (i.zero, i.size, i.bytes)) = some (some (.slice none 0 0), 1, 24) := by kernel_rfl
def NdJ (b : Bl) (w0 : World) (e : Ending) (w : World) : Prop := Below w0.heap.size w0 w ∧ ∃ (D : List (List Nat)) (na : Option Addr) (nc : Nat) (c : Int), e = .returned (.tuple #[.slice na D.length nc, .int .i64 c]) ∧ SAt 8 idK w na D ∧ IdsL D ∧ D.length ≤ 20000 ∧ (NdOk b → D = ndF b)
theorem needsJ_any (k : Int) (s : ByteArray) (w : World) (hT : Tabs w) : Calls Tryz.prog 24 #[.agg #[.int .i64 k, .string s]] w (NdJ (k, s) w) := by
 refine (needs_any k s w hT).mono ?_
 rintro e w1 ⟨hb, ⟨_, oa, oc, rfl, ho, hl, hi⟩ | ⟨hn, c, _, rfl⟩⟩
 ·
  exact ⟨hb, ndF (k, s), oa, oc, 0, rfl, own_satI hi ho, hi, hl, fun _ => rfl⟩
 ·
  exact ⟨hb, [], none, 0, c, rfl, fun i hi => absurd hi (by simp), fun x hx => (by cases hx), by simp, fun h => absurd h hn⟩
theorem flat_setC {α : Type} {n : Nat} {c : α → List Value} (hc : ∀ y, (c y).length = n) : ∀ (l : List α) (i j : Nat) (u : Value) (x : α) (h : i < l.length), j < n → (c l[i]).set j u = c x → (l.flatMap c).set (i * n + j) u = (l.set i x).flatMap c
 | [], i, j, u, x, h, _, _ => by cases h
 | p :: l, 0, j, u, x, h, hj, he => by
  rw [List.flatMap_cons, List.set_cons_zero, List.flatMap_cons, List.set_append_left _ _ (by rw [hc]; omega), Nat.zero_mul, Nat.zero_add]
  rw [show (c p).set j u = c x from he]
 | p :: l, i + 1, j, u, x, h, hj, he => by
  rw [List.flatMap_cons, List.set_cons_succ, List.flatMap_cons, List.set_append_right _ _ (by rw [hc, Nat.succ_mul]; omega), hc]
  rw [show (i + 1) * n + j - n = i * n + j by rw [Nat.succ_mul]; omega]
  rw [flat_setC hc l i j u x (by simpa using h) hj he]
theorem KO.len {w : World} {base : Nat} {e : KE} (h : KO w base e) : e.2.2.length ≤ 9223372036854775807 := by
 rcases h.1.2 with ⟨_, h0⟩ | ⟨g, cap, cur, _, _, _, h1, h2, _⟩
 ·
  omega
 ·
  unfold maxLen at h2; omega
structure CYS (l : List Bl) (base B : Nat) (ka : Option Addr) (kc : Nat) (es : List KE) (w0 wr : World) : Prop where
 len : es.length = l.length
 box : wr.heap[B]? = some (.cells #[.slice ka l.length kc] 142 (0, 0))
 own : wr.ownsRow base 143 1 (.slice ka l.length kc) l.length (es.flatMap keC)
 ko : ∀ e ∈ es, KO wr base e
 lt : ∀ e ∈ es, ∀ k ∈ e.2.2, 0 ≤ k ∧ k < l.length
 cyc : ∀ i, CX l i → ∃ (h : i < es.length) (h2 : i < l.length), KidOk l l[i] es[i].2.2
 below : Below base w0 wr
 lo : base ≤ w0.heap.size
theorem KO.keep {w w' : World} {base : Nat} {e : KE} (h : KO w base e) (hb : ∀ (g : Nat) (cs : Array Value), w.heap[g]? = some (Obj.cells cs 3 (0, 0)) → base ≤ g → w'.heap[g]? = w.heap[g]?) : KO w' base e := ⟨own_keep h.1 hb, h.2⟩
theorem CYS.step {l : List Bl} {base B : Nat} {ka : Option Addr} {kc : Nat} {es : List KE} {w0 w u : World} (h : CYS l base B ka kc es w0 w) (hb : Below w.heap.size w u) : CYS l base B ka kc es w0 u :=
 ⟨h.len, (hb.block _ (lt_of_blockW h.box)).trans h.box, own_belowK h.own hb, fun e he => (h.ko e he).keep fun g cs hg _ => hb.block g (lt_of_blockW hg), h.lt, h.cyc, h.below.trans (hb.mono (Nat.le_trans h.lo h.below.size)), h.lo⟩
theorem CYS.sat {l : List Bl} {base B : Nat} {ka : Option Addr} {kc : Nat} {es : List KE} {w0 w : World} (h : CYS l base B ka kc es w0 w) : SAt 1 keC w ka es := own_satW keC_length (cc := kc) (by have := h.own; rwa [← h.len] at this)
theorem CYS.bx {l : List Bl} {base B : Nat} {ka : Option Addr} {kc : Nat} {es : List KE} {w0 w : World} (h : CYS l base B ka kc es w0 w) : BX2 B ka kc es w := ⟨by rw [h.len]; exact h.box, h.sat⟩
theorem CYS.addr {l : List Bl} {base B : Nat} {ka : Option Addr} {kc : Nat} {es : List KE} {w0 w : World} (h : CYS l base B ka kc es w0 w) (hl : 0 < l.length) : ∃ g cs, ka = some ⟨g, 0, none⟩ ∧ w.heap[g]? = some (.cells cs 143 (0, 0)) ∧ base ≤ g ∧ l.length ≤ cs.size := by
 rcases h.own.2 with ⟨_, h0⟩ | ⟨g, cap, cur, hv, hB, hg, hn, hs⟩
 ·
  omega
 ·
  injection hv with h1 h2 h3
  refine ⟨g, _, h1, hg, hB, ?_⟩
  have := h.sat
  obtain ⟨g2, off, e1, _, hr⟩ := this (l.length - 1) (by rw [h.len]; omega)
  rw [h1] at e1
  injection e1 with e1
  injection e1 with e1 e2 _
  subst e1
  subst e2
  have hc := hr 0 _ rfl
  rw [Nat.zero_add, Nat.mul_one, Nat.add_zero, cell_of_row _ _ _ _ _ _ hg] at hc
  have := (Array.getElem?_eq_some_iff.1 hc).1
  omega
theorem CYS.set {l : List Bl} {base B g : Nat} {kc : Nat} {es : List KE} {w0 w : World} (h : CYS l base B (some ⟨g, 0, none⟩) kc es w0 w) (i : Nat) (hi : i < l.length) (hx : ¬ CX l i) : CYS l base B (some ⟨g, 0, none⟩) kc (es.set i (none, 0, [])) w0 (w.setCell ⟨g, i, none⟩ (.slice none 0 0)) := by
 obtain ⟨g2, cs, e, hg, hB, hsz⟩ := h.addr (by omega)
 injection e with e
 injection e with e _ _
 subst e
 have ho := (World.ownsRow.stored h.own i (.slice none 0 0)).1
 have hil : i < es.length := by rw [h.len]; exact hi
 have hfs := flat_setC keC_length es i 0 (.slice none 0 0) (none, 0, []) hil (by decide) rfl
 rw [Nat.mul_one, Nat.add_zero] at hfs
 rw [hfs] at ho
 refine ⟨by rw [List.length_set]; exact h.len, (Below.heap_setCell _ _ _ _ (fun e => by
  have hbx := h.box
  rw [e, hg] at hbx
  cases hbx)).trans h.box, ho, fun e he => ?_, fun e he => ?_, fun j hj => ?_, h.below.setCell (p := ⟨g, i, none⟩) hB _, h.lo⟩
 ·
  rcases List.mem_or_eq_of_mem_set he with he | rfl
  ·
   refine (h.ko e he).keep fun k cs2 hk _ => Below.heap_setCell _ _ _ _ (fun e => ?_)
   subst e
   rw [hg] at hk
   cases hk
  ·
   exact KO.nil
 ·
  rcases List.mem_or_eq_of_mem_set he with he | rfl
  ·
   exact h.lt e he
  ·
   intro k hk; cases hk
 ·
  obtain ⟨h1, h2, h3⟩ := h.cyc j hj
  have hne : i ≠ j := fun e => hx (by rw [e]; exact hj)
  refine ⟨by rw [List.length_set]; exact h1, h2, ?_⟩
  rw [List.getElem_set_ne hne]
  exact h3
theorem CYS.free {l : List Bl} {base B : Nat} {ka : Option Addr} {kc : Nat} {es : List KE} {w0 w : World} (h : CYS l base B ka kc es w0 w) (hc : Cons l) (i : Nat) (hi : i < es.length) (hn : es[i].2.2.any (kidB es) = false) : ¬ CX l i := fun hx => by
 obtain ⟨h1, h2, h3⟩ := h.cyc i hx
 obtain ⟨j, hj, hjx⟩ := hx.kid hc h2 h3
 obtain ⟨g1, g2, g3⟩ := h.cyc _ hjx
 obtain ⟨q, hq, _⟩ := hjx.kid hc g2 g3
 rw [List.any_eq_false] at hn
 have := hn j hj
 unfold kidB at this
 rw [List.getElem?_eq_getElem g1] at this
 exact this ((nzB_iff _).2 (fun e => by rw [e] at hq; cases hq))
theorem CYS.some_ {l : List Bl} {base B : Nat} {ka : Option Addr} {kc : Nat} {es : List KE} {w0 w : World} (h : CYS l base B ka kc es w0 w) (hc : Cons l) (hcy : CycL l) : es.any nzB = true := by
 obtain ⟨i, hx⟩ := hcy.cx
 obtain ⟨h1, h2, h3⟩ := h.cyc i hx
 obtain ⟨j, hj, _⟩ := hx.kid hc h2 h3
 exact List.any_eq_true.2 ⟨_, List.getElem_mem h1, (nzB_iff _).2 (fun e => by rw [e] at hj; cases hj)⟩
theorem CX.lt {l : List Bl} {i : Nat} (h : CX l i) : i < l.length := h.1
set_option maxRecDepth 100000 in
set_option maxHeartbeats 4000000 in
theorem cyclic_any (a : Option Addr) (cap : Nat) (l : List Bl) (w : World) (h : SAt 2 blC w a l) (hl : l.length ≤ 1000) (hc : Cons l) (hcy : CycL l) (hT : Tabs w) :
  Calls Tryz.prog 49 #[.slice a l.length cap] w fun e w' => e = .returned (.bool true) ∧ Below w.heap.size w w' := by
 obtain ⟨in0, hin0, hnz0, hnz1, hnz2⟩ := info_parts info_niF
 obtain ⟨il0, hil0, hlz0, hlz1, hlz2⟩ := info_parts info_lsF
 have HS := Lib.hid h
 have HC := Lib.hid hc
 have HCY := Lib.hid hcy
 have HT := Lib.hid hT
 have hli : (l.length : Int) ≤ 1000 := by omega
 have HPOS : Hid (0 < l.length) := Lib.hid (by
  obtain ⟨i, hx⟩ := hcy.cx
  have := hx.lt
  omega)
 clear h hc hcy hT
 go_enter Tryz.func49, Tryz.ntmps49
 go_wp2_with fail
 refine (idsOf_any a cap l w HS.out (by omega)).mono ?_
 rintro e w1 ⟨hb1, ia, ic, rfl, hown⟩
 have HOI := Lib.hid hown
 have HB1 := Lib.hid hb1
 clear hb1 hown
 go_wp2_with fail
 have hb2 := (Below.refl w1.heap.size w1).alloc (Nat.le_refl _) (.cells #[.slice none 0 0] 142)
 have hr2 := heap_alloc_new w1 (.cells #[.slice none 0 0] 142)
 have HB2 := Lib.hid (HB1.out.trans (hb2.mono HB1.out.size))
 have HOI2 := Lib.hid (own_belowK HOI.out hb2)
 have HR2 := Lib.hid hr2
 have HBL := Lib.hid HB1.out.size
 generalize w1.alloc (.cells #[.slice none 0 0] 142) = w2 at *
 generalize w1.heap.size = B at *
 clear hb2 hr2 HB1 HOI
 go_loopw [19] (fun iv wr => ∃ (i : Nat) (es : List KE) (ka : Option Addr) (kc : Nat), i ≤ l.length ∧ iv = .int .i64 (i : Int) ∧ Hid (es.length = i) ∧ Hid (wr.heap[B]? = some (.cells #[.slice ka i kc] 142 (0, 0))) ∧ Hid (wr.ownsRow w.heap.size 143 1 (.slice ka i kc) i (es.flatMap keC)) ∧ Hid (∀ e ∈ es, KO wr w.heap.size e) ∧ Hid (∀ (j : Nat) (e : KE), es[j]? = some e → ∀ b, l[j]? = some b → KidOk l b e.2.2) ∧ Hid (Below w.heap.size w wr) ∧ Hid (wr.ownsRow w.heap.size 30 8 (.slice ia l.length ic) l.length ((l.map pidL).flatMap idK))) (fun iv _ => l.length - (intOf iv).toNat)
 case atStart => exact ⟨0, [], none, 0, Nat.zero_le _, rfl, Lib.hid rfl, HR2, Lib.hid (World.ownsRow_nil _ _ _ _), Lib.hid (fun e he => by cases he), Lib.hid (fun j e he => by simp at he), HB2, HOI2⟩
 case round =>
  obtain ⟨i, es, ka, kc, hi, rfl, HEL, HBX, HOW, HKO, HKD, HBR, HOI⟩ := hrel
  clear HR2 HB2 HOI2
  by_cases hlt : i < l.length
  ·
   have m1 : (i : Int) < (l.length : Int) := by omega
   have HLT := Lib.hid hlt
   obtain ⟨g, off, rfl, hg, hr⟩ := (HS.out.below HBR.out) i hlt
   have hbl : l[i]? = some l[i] := List.getElem?_eq_getElem hlt
   generalize l[i] = bl at *
   have HBLI := Lib.hid hbl
   obtain ⟨k, s⟩ := bl
   have r0 : wr.cell? ⟨g, off + i * 2, none⟩ = some (.int .i64 k) := hr 0 _ rfl
   have r1 : wr.cell? ⟨g, off + i * 2 + 1, none⟩ = some (.string s) := hr 1 _ rfl
   have hna := heap_alloc_new wr (.cells #[.int .i64 k, .string s] 37)
   have hba := (Below.refl wr.heap.size wr).alloc (Nat.le_refl _) (.cells #[.int .i64 k, .string s] 37)
   have HBA := Lib.hid hba
   have a0 := cell_of_row _ _ 0 _ _ _ hna
   have a1 := cell_of_row _ _ 1 _ _ _ hna
   simp only [List.getElem?_toArray, List.getElem?_cons_succ, List.getElem?_cons_zero] at a0 a1
   clear hr hg hna hba hbl hlt
   go_wp2_with fail
   refine (needsJ_any k s _ (HT.out.below (HBR.out.trans (HBA.out.mono HBR.out.size)))).mono ?_
   rintro e u ⟨hbu, D, na, nc, c, rfl, hsd, hids, hdl, hnd⟩
   have HXU := Lib.hid (HBA.out.trans (hbu.mono HBA.out.size))
   have HSD := Lib.hid hsd
   have HIDS := Lib.hid hids
   have HND := Lib.hid hnd
   have hdi : (D.length : Int) ≤ 20000 := by omega
   have HBU := Lib.hid (HBR.out.trans (HXU.out.mono HBR.out.size))
   have HBXU := Lib.hid ((HXU.out.block _ (lt_of_blockW HBX.out)).trans HBX.out)
   have HOWU := Lib.hid (own_belowK HOW.out HXU.out)
   have HKOU : Hid (∀ e ∈ es, KO u w.heap.size e) := Lib.hid fun e he => (HKO.out e he).keep fun g cs hg _ => HXU.out.block g (lt_of_blockW hg)
   have HOIU := Lib.hid (own_belowK HOI.out HXU.out)
   have HIDU := Lib.hid (IofEnd.sat HOIU.out)
   clear hbu hsd hids hnd a0 a1 r0 r1 HBX HOW HKO HBR HOI HXU HBA
   go_wp2_with fail
   obtain ⟨wo, rfl⟩ : ∃ wo : World, wo = wr := ⟨_, rfl⟩
   go_loopw [9, 30] (fun mv jv wq => ∃ (j : Nat) (K : List Int) (ma : Option Addr) (mc : Nat), j ≤ D.length ∧ jv = .int .i64 (j : Int) ∧ mv = .slice ma K.length mc ∧ K.length ≤ j ∧ Hid (K = [] → ma = none ∧ mc = 0) ∧ Hid (wq.ownsRow u.heap.size 3 1 (.slice ma K.length mc) K.length (K.flatMap niC)) ∧ Hid ((∀ k ∈ K, 0 ≤ k ∧ k < l.length) ∧ ∀ n ∈ D.take j, n ∈ l.map pidL → ∃ k ∈ K, (l.map pidL)[k.toNat]? = some n) ∧ Hid (Below u.heap.size u wq)) (fun _ jv _ => D.length - (intOf jv).toNat)
   case atStart => exact ⟨0, [], none, 0, Nat.zero_le _, rfl, rfl, Nat.le_refl _, Lib.hid (fun _ => ⟨rfl, rfl⟩), Lib.hid (World.ownsRow_nil _ _ _ _), Lib.hid ⟨fun k hk => (by cases hk), fun n hn => (by cases hn)⟩, Lib.hid (Below.refl _ _)⟩
   case round =>
    obtain ⟨wq, rfl⟩ : ∃ wq : World, wq = wr := ⟨_, rfl⟩
    obtain ⟨j, K, ma, mc, hj, rfl, rfl, hkl, HNI, HOK, HKJ, HBQ⟩ := hrel
    by_cases hlt2 : j < D.length
    ·
     have m2 : (j : Int) < (D.length : Int) := by omega
     obtain ⟨g2, off2, rfl, hg2, hrr⟩ := (HSD.out.below HBQ.out) j hlt2
     have htk2 : D.take (j + 1) = D.take j ++ [D[j]] := List.take_succ_eq_append_getElem hlt2
     have h8 := HIDS.out _ (List.getElem_mem hlt2)
     generalize D[j] = n at *
     obtain ⟨v0, v1, v2, v3, v4, v5, v6, v7, rfl⟩ := list8W h8
     have q0 := hrr 0 _ rfl
     have q1 := hrr 1 _ rfl
     have q2 := hrr 2 _ rfl
     have q3 := hrr 3 _ rfl
     have q4 := hrr 4 _ rfl
     have q5 := hrr 5 _ rfl
     have q6 := hrr 6 _ rfl
     have q7 := hrr 7 _ rfl
     simp only [Nat.add_zero, bV] at q0 q1 q2 q3 q4 q5 q6 q7
     have HTK2 := Lib.hid htk2
     have HLJ := Lib.hid hlt2
     have hrn := heap_alloc_new wq (.cells #[.int .u8 (v0 : Int), .int .u8 (v1 : Int), .int .u8 (v2 : Int), .int .u8 (v3 : Int), .int .u8 (v4 : Int), .int .u8 (v5 : Int), .int .u8 (v6 : Int), .int .u8 (v7 : Int)] 30)
     have hba := (Below.refl wq.heap.size wq).alloc (Nat.le_refl _) (.cells #[.int .u8 (v0 : Int), .int .u8 (v1 : Int), .int .u8 (v2 : Int), .int .u8 (v3 : Int), .int .u8 (v4 : Int), .int .u8 (v5 : Int), .int .u8 (v6 : Int), .int .u8 (v7 : Int)] 30)
     have HBA := Lib.hid (HBQ.out.trans (hba.mono HBQ.out.size))
     have HOA := Lib.hid (own_belowK HOK.out hba)
     have p0 := cell_of_row _ _ 0 _ _ _ hrn
     have p1 := cell_of_row _ _ 1 _ _ _ hrn
     have p2 := cell_of_row _ _ 2 _ _ _ hrn
     have p3 := cell_of_row _ _ 3 _ _ _ hrn
     have p4 := cell_of_row _ _ 4 _ _ _ hrn
     have p5 := cell_of_row _ _ 5 _ _ _ hrn
     have p6 := cell_of_row _ _ 6 _ _ _ hrn
     have p7 := cell_of_row _ _ 7 _ _ _ hrn
     simp only [List.getElem?_toArray, List.getElem?_cons_zero, List.getElem?_cons_succ] at p0 p1 p2 p3 p4 p5 p6 p7
     have HIX : Hid (Calls Tryz.prog 77 #[.slice ia l.length ic, .agg #[.int .u8 (v0 : Int), .int .u8 (v1 : Int), .int .u8 (v2 : Int), .int .u8 (v3 : Int), .int .u8 (v4 : Int), .int .u8 (v5 : Int), .int .u8 (v6 : Int), .int .u8 (v7 : Int)]] (wq.alloc (.cells #[.int .u8 (v0 : Int), .int .u8 (v1 : Int), .int .u8 (v2 : Int), .int .u8 (v3 : Int), .int .u8 (v4 : Int), .int .u8 (v5 : Int), .int .u8 (v6 : Int), .int .u8 (v7 : Int)] 30)) fun e w' => ((∃ i : Nat, e = .returned (.int .i64 (i : Int)) ∧ (l.map pidL)[i]? = some [v0, v1, v2, v3, v4, v5, v6, v7]) ∨ (e = .returned (.int .i64 (-1)) ∧ [v0, v1, v2, v3, v4, v5, v6, v7] ∉ l.map pidL)) ∧ Below (wq.alloc (.cells #[.int .u8 (v0 : Int), .int .u8 (v1 : Int), .int .u8 (v2 : Int), .int .u8 (v3 : Int), .int .u8 (v4 : Int), .int .u8 (v5 : Int), .int .u8 (v6 : Int), .int .u8 (v7 : Int)] 30)).heap.size (wq.alloc (.cells #[.int .u8 (v0 : Int), .int .u8 (v1 : Int), .int .u8 (v2 : Int), .int .u8 (v3 : Int), .int .u8 (v4 : Int), .int .u8 (v5 : Int), .int .u8 (v6 : Int), .int .u8 (v7 : Int)] 30)) w') := Lib.hid (by
      have h := indexIdAt_any ia ic (l.map pidL) [v0, v1, v2, v3, v4, v5, v6, v7] rfl (pids_l l) (wq.alloc (.cells #[.int .u8 (v0 : Int), .int .u8 (v1 : Int), .int .u8 (v2 : Int), .int .u8 (v3 : Int), .int .u8 (v4 : Int), .int .u8 (v5 : Int), .int .u8 (v6 : Int), .int .u8 (v7 : Int)] 30)) (HIDU.out.below HBA.out) (by rw [List.length_map]; omega)
      rw [List.length_map] at h
      exact h)
     clear hrr hg2 htk2 h8 hrn hba hlt2
     go_wp2_with fail
     generalize wq.alloc (.cells #[.int .u8 (v0 : Int), .int .u8 (v1 : Int), .int .u8 (v2 : Int), .int .u8 (v3 : Int), .int .u8 (v4 : Int), .int .u8 (v5 : Int), .int .u8 (v6 : Int), .int .u8 (v7 : Int)] 30) = wa at *
     refine HIX.out.mono ?_
     rintro e w5 ⟨⟨kn, rfl, hk⟩ | ⟨rfl, hk⟩, hb5⟩
     ·
      have HB5 := Lib.hid (HBA.out.trans (hb5.mono HBA.out.size))
      have HO5 := Lib.hid (own_belowK HOA.out hb5)
      have k0 : (0 : Int) ≤ (kn : Int) := Int.natCast_nonneg _
      have HKJ2 : Hid ((∀ k ∈ K ++ [(kn : Int)], 0 ≤ k ∧ k < l.length) ∧ ∀ n ∈ D.take (j + 1), n ∈ l.map pidL → ∃ k ∈ K ++ [(kn : Int)], (l.map pidL)[k.toNat]? = some n) := Lib.hid ⟨fun k hk2 => by
       rcases List.mem_append.1 hk2 with hk2 | hk2
       ·
        exact HKJ.out.1 k hk2
       ·
        rw [List.mem_singleton] at hk2
        subst hk2
        have := (List.getElem?_eq_some_iff.1 hk).1
        rw [List.length_map] at this
        exact ⟨k0, by omega⟩, fun n hn hm => by
       rw [HTK2.out] at hn
       rcases List.mem_append.1 hn with hn | hn
       ·
        obtain ⟨k, h1, h2⟩ := HKJ.out.2 n hn hm
        exact ⟨k, List.mem_append_left _ h1, h2⟩
       ·
        rw [List.mem_singleton] at hn
        subst hn
        exact ⟨(kn : Int), by simp, by rw [Int.toNat_natCast]; exact hk⟩⟩
      have D1 := Lib.hid (cells_new_at w5 w5.heap.size rfl #[.int .i64 (kn : Int)] 3 (niC (kn : Int)) rfl)
      have D2 : Hid (∀ u ∈ niC (kn : Int), u.oneCell' = true) := Lib.hid (by intro u hu; simp only [niC, List.mem_cons, List.not_mem_nil, or_false] at hu; rcases hu with rfl; rfl)
      have D3 : Hid (K.length + 1 ≤ maxLen) := Lib.hid (by unfold maxLen; omega)
      have D4 : Hid ((K.length + 1) * 8 ≤ 140737488355328) := Lib.hid (by omega)
      have D5 : Hid (u.heap.size ≤ (w5.alloc (.cells #[.int .i64 (kn : Int)] 3)).heap.size) := Lib.hid (by have := HB5.out.size; simp at this ⊢; omega)
      clear hk hb5 p0 p1 p2 p3 p4 p5 p6 p7 q0 q1 q2 q3 q4 q5 q6 q7 HIX
      go_wp2_with (at_builtin; refine wpList_append_own _ rfl _ _ 143 rfl u.heap.size 3 in0 (.int .i64 0) 1 8 Tryz.underlying143 hin0 hnz0 hnz1 hnz2 rfl (by decide) _ _ _ rfl (HO5.out.alloc _) ⟨w5.heap.size, 0, none⟩ 1 1 (niC (kn : Int)) rfl rfl D1.out D2.out D3.out D4.out D5.out ?_)
      intro v' wC hown' hgrow _
      have BW := Lib.hid (below_own (HB5.out.alloc HB5.out.size (.cells #[.int .i64 (kn : Int)] 3)) hgrow D5.out (HO5.out.alloc _) (Nat.le_refl _))
      obtain ⟨ma2, mc2, rfl⟩ := own_formK hown'
      have OW : Hid (wC.ownsRow u.heap.size 3 1 (.slice ma2 (K ++ [(kn : Int)]).length mc2) (K ++ [(kn : Int)]).length ((K ++ [(kn : Int)]).flatMap niC)) := Lib.hid (by
       rw [List.length_append, List.flatMap_append, List.flatMap_singleton]
       exact hown')
      clear hown' hgrow
      go_wp2_with fail
      go_roundw
      case rel => exact ⟨j + 1, K ++ [(kn : Int)], ma2, mc2, HLJ.out, by go_num, by rw [List.length_append]; rfl, by rw [List.length_append]; simp; omega, Lib.hid (fun h => by simp at h), OW, HKJ2, BW⟩
      case measure => simp [intOf]; have := HLJ.out; omega
     ·
      have HB5 := Lib.hid (HBA.out.trans (hb5.mono HBA.out.size))
      have HO5 := Lib.hid (own_belowK HOA.out hb5)
      have HKJ2 : Hid ((∀ k ∈ K, 0 ≤ k ∧ k < l.length) ∧ ∀ n ∈ D.take (j + 1), n ∈ l.map pidL → ∃ k ∈ K, (l.map pidL)[k.toNat]? = some n) := Lib.hid ⟨HKJ.out.1, fun n hn hm => by
       rw [HTK2.out] at hn
       rcases List.mem_append.1 hn with hn | hn
       ·
        exact HKJ.out.2 n hn hm
       ·
        rw [List.mem_singleton] at hn
        subst hn
        exact absurd hm hk⟩
      clear hk hb5 p0 p1 p2 p3 p4 p5 p6 p7 q0 q1 q2 q3 q4 q5 q6 q7 HIX
      go_wp2_with fail
      go_roundw
      case rel => exact ⟨j + 1, K, ma, mc, HLJ.out, by go_num, rfl, by omega, HNI, HO5, HKJ2, HB5⟩
      case measure => simp [intOf]; have := HLJ.out; omega
    ·
     have m2 : ¬ (j : Int) < (D.length : Int) := by omega
     obtain rfl : j = D.length := by omega
     have HKK : Hid (KidOk l (k, s) K) := Lib.hid ⟨HKJ.out.1, fun hok n hn hm => HKJ.out.2 n (by rw [List.take_length, HND.out hok]; exact hn) hm⟩
     have HBF := Lib.hid (HBU.out.trans (HBQ.out.mono HBU.out.size))
     have HBXF := Lib.hid ((HBQ.out.block _ (lt_of_blockW HBXU.out)).trans HBXU.out)
     have HOWF := Lib.hid (own_belowK HOWU.out HBQ.out)
     have HKOF : Hid (∀ e ∈ es ++ [((ma, mc, K) : KE)], KO wq w.heap.size e) := Lib.hid fun e he => by
      rcases List.mem_append.1 he with he | he
      ·
       exact (HKOU.out e he).keep fun g cs hg _ => HBQ.out.block g (lt_of_blockW hg)
      ·
       rw [List.mem_singleton] at he
       subst he
       exact ⟨own_baseN HOK.out HBU.out.size, fun hk => by
        obtain ⟨rfl, rfl⟩ := HNI.out hk
        have hk : K = [] := hk
        subst hk
        rfl⟩
     have HOIF := Lib.hid (own_belowK HOIU.out HBQ.out)
     have hx0 := HBXF.out
     have c0 := cell_of_row _ _ 0 _ _ _ hx0
     simp only [List.getElem?_toArray, List.getElem?_cons_zero] at c0
     have D1 := Lib.hid (cells_new_at wq wq.heap.size rfl #[.slice ma K.length mc] 143 [.slice ma K.length mc] rfl)
     have D2 : Hid (∀ u ∈ ([.slice ma K.length mc] : List Value), u.oneCell' = true) := Lib.hid (by intro u hu; simp only [List.mem_cons, List.not_mem_nil, or_false] at hu; rcases hu with rfl; rfl)
     have D3 : Hid (i + 1 ≤ maxLen) := Lib.hid (by unfold maxLen; have := HLT.out; omega)
     have D4 : Hid ((i + 1) * 24 ≤ 140737488355328) := Lib.hid (by have := HLT.out; omega)
     have D5 : Hid (w.heap.size ≤ (wq.alloc (.cells #[.slice ma K.length mc] 143)).heap.size) := Lib.hid (by have := HBF.out.size; simp at this ⊢; omega)
     clear hx0 HOK HKJ HBQ HNI
     go_wp2_with (at_builtin; refine wpList_append_own _ rfl _ _ 142 rfl w.heap.size 143 il0 (.slice none 0 0) 1 24 Tryz.underlying142 hil0 hlz0 hlz1 hlz2 rfl (by decide) _ _ _ rfl (HOWF.out.alloc _) ⟨wq.heap.size, 0, none⟩ 1 1 [.slice ma K.length mc] rfl rfl D1.out D2.out D3.out D4.out D5.out ?_)
     intro v' wC hown' hgrow _
     have HOWa := HOWF.out.alloc (.cells #[.slice ma K.length mc] 143)
     have hBA2 := (Below.refl wq.heap.size wq).alloc (Nat.le_refl _) (.cells #[.slice ma K.length mc] 143)
     have hXa := (hBA2.block _ (lt_of_blockW HBXF.out)).trans HBXF.out
     have hXC := (hgrow.block _ (lt_of_blockW hXa) (own_neqK HOWa hXa (by decide))).trans hXa
     have HBC := Lib.hid (below_own (HBF.out.alloc HBF.out.size (.cells #[.slice ma K.length mc] 143)) hgrow D5.out HOWa (Nat.le_refl _))
     have HKOC : Hid (∀ e ∈ es ++ [((ma, mc, K) : KE)], KO wC w.heap.size e) := Lib.hid fun e he => ⟨own_grown (World.ownsRow.alloc (HKOF.out e he).1 _) HOWa (by decide) hgrow, (HKOF.out e he).2⟩
     have HOIC := Lib.hid (own_grown (World.ownsRow.alloc HOIF.out _) HOWa (by decide) hgrow)
     obtain ⟨ka2, kc2, rfl⟩ := own_formK hown'
     have OW : Hid (wC.ownsRow w.heap.size 143 1 (.slice ka2 (i + 1) kc2) (i + 1) ((es ++ [((ma, mc, K) : KE)]).flatMap keC)) := Lib.hid (by
      rw [List.flatMap_append, List.flatMap_singleton]
      exact hown')
     have HXC := Lib.hid hXC
     have c1 := cell_of_row _ _ 0 _ _ _ hXC
     have f1 := frozen_of_row _ _ 0 _ _ hXC
     simp only [List.getElem?_toArray, List.getElem?_cons_zero] at c1
     have HXS : Hid ((wC.setCell ⟨B, 0, none⟩ (.slice ka2 (i + 1) kc2)).heap[B]? = some (.cells #[.slice ka2 (i + 1) kc2] 142 (0, 0))) := Lib.hid (heap_setCell_same wC B 0 _ _ (.slice ka2 (i + 1) kc2) hXC)
     have HOS := Lib.hid (ownsRow_setCell_other OW.out (a := ⟨B, 0, none⟩) (fun e => own_neqK OW.out hXC (by decide) e.symm) (.slice ka2 (i + 1) kc2))
     have HKS : Hid (∀ e ∈ es ++ [((ma, mc, K) : KE)], KO (wC.setCell ⟨B, 0, none⟩ (.slice ka2 (i + 1) kc2)) w.heap.size e) := Lib.hid fun e he => (HKOC.out e he).keep fun g cs hg _ => Below.heap_setCell _ _ _ _ (fun e => by
      subst e
      rw [hXC] at hg
      cases hg)
     have HOIS := Lib.hid (ownsRow_setCell_other HOIC.out (a := ⟨B, 0, none⟩) (fun e => own_neqK HOIC.out hXC (by decide) e.symm) (.slice ka2 (i + 1) kc2))
     have HBS := Lib.hid (HBC.out.setCell (p := ⟨B, 0, none⟩) HBL.out (.slice ka2 (i + 1) kc2))
     clear hown' hgrow HOWa hBA2 hXa hXC c0
     have HKDS : Hid (∀ (j : Nat) (e : KE), (es ++ [((ma, mc, K) : KE)])[j]? = some e → ∀ b, l[j]? = some b → KidOk l b e.2.2) := Lib.hid fun j e he b hb => by
      rcases Nat.lt_or_ge j es.length with h | h
      ·
       rw [List.getElem?_append_left h] at he
       exact HKD.out j e he b hb
      ·
       rw [List.getElem?_append_right h] at he
       cases hj : j - es.length with
       | succ q => rw [hj] at he; simp at he
       | zero =>
        rw [hj] at he
        have e1 : ((ma, mc, K) : KE) = e := by simpa using he
        have : j = i := by have := HEL.out; omega
        subst this
        rw [HBLI.out] at hb
        have e2 := Option.some.inj hb
        subst e1 e2
        exact HKK.out
     have HEL2 : Hid ((es ++ [((ma, mc, K) : KE)]).length = i + 1) := Lib.hid (by rw [List.length_append, HEL.out]; rfl)
     clear HKD HKK HEL HBLI
     go_wp2_with fail
     go_roundw
     case rel => exact ⟨i + 1, es ++ [((ma, mc, K) : KE)], ka2, kc2, HLT.out, by go_num, HEL2, HXS, HOS, HKS, HKDS, HBS, HOIS⟩
     case measure => simp [intOf]; have := HLT.out; omega
  ·
   have m1 : ¬ (i : Int) < (l.length : Int) := by omega
   obtain rfl : i = l.length := by omega
   have hcs : CYS l w.heap.size B ka kc es w wr := ⟨HEL.out, HBX.out, HOW.out, HKO.out, fun e he k hk => by
    obtain ⟨j, hj, rfl⟩ := List.mem_iff_getElem.1 he
    have hjl : j < l.length := by have := HEL.out; omega
    exact (HKD.out j _ (List.getElem?_eq_getElem hj) _ (List.getElem?_eq_getElem hjl)).1 k hk, fun j hj => by
    have hjl := hj.lt
    have hje : j < es.length := by have := HEL.out; omega
    exact ⟨hje, hjl, HKD.out j _ (List.getElem?_eq_getElem hje) _ (List.getElem?_eq_getElem hjl)⟩, HBR.out, Nat.le_refl _⟩
   obtain ⟨g, _, rfl, _, _, _⟩ := hcs.addr HPOS.out
   have HCS := Lib.hid hcs
   clear hcs HEL HBX HOW HKO HKD HBR HOI m1
   obtain ⟨wo, rfl⟩ : ∃ wo : World, wo = wr := ⟨_, rfl⟩
   go_wp2_with fail
   go_loopw [51] (fun tv wq => ∃ (t : Nat) (es : List KE), t ≤ l.length ∧ tv = .int .i64 (t : Int) ∧ Hid (CYS l w.heap.size B (some ⟨g, 0, none⟩) kc es w wq)) (fun tv _ => l.length - (intOf tv).toNat)
   case atStart => exact ⟨0, es, Nat.zero_le _, rfl, HCS⟩
   case round =>
    obtain ⟨t, es, ht, rfl, HCQ⟩ := hrel
    have c0 := cell_of_row _ _ 0 _ _ _ HCQ.out.box
    simp only [List.getElem?_toArray, List.getElem?_cons_zero] at c0
    by_cases hlt : t < l.length
    ·
     have m1 : (t : Int) < (l.length : Int) := by omega
     have HLT := Lib.hid hlt
     obtain ⟨wo2, rfl⟩ : ∃ wo2 : World, wo2 = wr := ⟨_, rfl⟩
     go_wp2_with fail
     clear c0
     go_loopw [55] (fun iv wz => ∃ (i : Nat) (es : List KE), i ≤ l.length ∧ iv = .int .i64 (i : Int) ∧ Hid (CYS l w.heap.size B (some ⟨g, 0, none⟩) kc es w wz)) (fun iv _ => l.length - (intOf iv).toNat)
     case atStart => exact ⟨0, es, Nat.zero_le _, rfl, HCQ⟩
     case round =>
      clear HCQ
      obtain ⟨i, es, hi, rfl, HCZ⟩ := hrel
      by_cases hlti : i < l.length
      ·
       have m2 : (i : Int) < (l.length : Int) := by omega
       have hie : i < es.length := by rw [HCZ.out.len]; exact hlti
       have HLI := Lib.hid hlti
       have HIE := Lib.hid hie
       obtain ⟨g2, off2, hga, _, hcl⟩ := sat_ke HCZ.out.sat i hie
       have hga2 := Option.some.inj hga
       injection hga2 with e1 e2 _
       subst e1 e2
       rw [Nat.zero_add] at hcl
       have HKE := Lib.hid (HCZ.out.ko _ (List.getElem_mem hie))
       have HKL := Lib.hid (HCZ.out.lt _ (List.getElem_mem hie))
       have HFR := Lib.hid (HCZ.out.free HC.out i hie)
       clear hga
       generalize es[i] = e at *
       by_cases he : e.2.2 = []
       ·
        obtain rfl := HKE.out.2 he
        simp only [List.length_nil] at hcl
        clear he HKE HKL HFR
        go_wp2_with fail
        go_roundw
        case rel => exact ⟨i + 1, es, HLI.out, by go_num, HCZ⟩
        case measure => simp [intOf]; have := HLI.out; omega
       ·
        obtain ⟨g3, c3, L, rfl, hL⟩ := HKE.out.addr_ he
        simp only at hcl
        have hLp : 0 < L.length := List.length_pos_iff.2 hL
        have m3 : (0 : Int) < (L.length : Int) := by omega
        have hsL : SAt 1 niC wr (some ⟨g3, 0, none⟩) L := own_satW niC_length (cc := c3) HKE.out.1
        have hLb : L.length ≤ 9223372036854775807 := HKE.out.len
        have HCT := Lib.hid (containsKid_any (kidB es) B (some ⟨g3, 0, none⟩) c3 L wr (fun n hn wx hb => kid_any (base := w.heap.size) wx (HCZ.out.bx.below hb) (fun e he => ⟨wr, HCZ.out.ko e he⟩) n (HKL.out n hn).1 (by have := (HKL.out n hn).2; rw [HCZ.out.len]; exact this)) hsL hLb)
        replace HFR : Hid (L.any (kidB es) = false → ¬ CX l i) := HFR
        obtain ⟨bb, hbb⟩ : ∃ bb, L.any (kidB es) = bb := ⟨_, rfl⟩
        rw [hbb] at HCT HFR
        clear he hL hsL hLb HKE HKL hbb
        cases bb with
        | true =>
         go_wp2_with fail
         refine HCT.out.mono ?_
         rintro e w5 ⟨rfl, hb5⟩
         have HC5 := Lib.hid (HCZ.out.step hb5)
         clear hb5 HCT HFR hcl
         go_wp2_with fail
         go_roundw
         case rel => exact ⟨i + 1, es, HLI.out, by go_num, HC5⟩
         case measure => simp [intOf]; have := HLI.out; omega
        | false =>
         have HNX := Lib.hid (HFR.out rfl)
         clear HFR
         go_wp2_with fail
         refine HCT.out.mono ?_
         rintro e w5 ⟨rfl, hb5⟩
         have HC5 := Lib.hid (HCZ.out.step hb5)
         have HS5 := Lib.hid (HC5.out.set i HLI.out HNX.out)
         have d0 := cell_of_row _ _ 0 _ _ _ HC5.out.box
         simp only [List.getElem?_toArray, List.getElem?_cons_zero] at d0
         obtain ⟨_, cs5, hq, hg5, _, hz5⟩ := HC5.out.addr HPOS.out
         injection hq with hq
         injection hq with hq _ _
         subst hq
         have d1 := frozen_of_row _ _ i _ _ hg5
         have d2 : w5.cell? ⟨g, i, none⟩ = some cs5[i] := by
          rw [cell_of_row _ _ i _ _ _ hg5]
          exact Array.getElem?_eq_getElem (by have := HLI.out; omega)
         clear hb5 HCT HNX hcl hg5
         go_wp2_with fail
         go_roundw
         case rel => exact ⟨i + 1, _, HLI.out, by go_num, HS5⟩
         case measure => simp [intOf]; have := HLI.out; omega
      ·
       have m2 : ¬ (i : Int) < (l.length : Int) := by omega
       go_wp2_with fail
       go_roundw
       case rel => exact ⟨t + 1, es, HLT.out, by go_num, HCZ⟩
       case measure => simp [intOf]; have := HLT.out; omega
    ·
     have m1 : ¬ (t : Int) < (l.length : Int) := by omega
     have hct := containsLs_any nzB (some ⟨g, 0, none⟩) kc es wr (fun e _ wx _ => ls_any e wx) HCQ.out.sat (by rw [HCQ.out.len]; omega)
     rw [HCQ.out.len, HCQ.out.some_ HC.out HCY.out] at hct
     have HCT := Lib.hid hct
     clear hct
     go_wp2_with fail
     refine HCT.out.mono ?_
     rintro e w5 ⟨rfl, hb5⟩
     have HBF := Lib.hid (HCQ.out.below.trans (hb5.mono HCQ.out.below.size))
     clear hb5 HCT
     go_wp2_with fail
     go_ret
     exact ⟨rfl, HBF.out⟩
end Go.Proofs.YtbfoonfbhebhfaaGreatDoor
namespace Go.Proofs.YtbfoonfbhebhfaaGreatDoor
open Go.RowKit Plain Go.Maps Go.ChangeMaps
set_option linter.unusedVariables false
set_option linter.unusedSimpArgs false
theorem sat_cut {α : Type} {n : Nat} {c : α → List Value} {w : World} {a : Option Addr} {l : List α} (h : SAt n c w a l) (k : Nat) : SAt n c w a (l.take k) := fun i hi => by
 have hil : i < l.length := by rw [List.length_take] at hi; omega
 obtain ⟨g, off, h1, h2, h3⟩ := h i hil
 refine ⟨g, off, h1, h2, ?_⟩
 rw [List.getElem_take]
 exact h3
theorem idsOfS_any (a : Option Addr) (cap : Nat) (l : List Bl) (w : World) (h : SAt 2 blC w a l) (hl : l.length ≤ 8796093022208) :
  Calls Tryz.prog 39 #[.slice a l.length cap] w fun e w' => Below w.heap.size w w' ∧ ∃ (oa : Option Addr) (oc : Nat), e = .returned (.slice oa l.length oc) ∧ SAt 8 idK w' oa (l.map pidL) := by
 refine (idsOf_any a cap l w h hl).mono ?_
 rintro e w1 ⟨hb, oa, oc, rfl, ho⟩
 exact ⟨hb, oa, oc, rfl, IofEnd.sat ho⟩
theorem sat_idK {w : World} {a : Option Addr} {l : List ID8} (h : SAt 8 idC w a l) : SAt 8 idK w a (l.map idL) := fun i hi => by
 obtain ⟨g, off, h1, h2, h3⟩ := h i (by simpa using hi)
 refine ⟨g, off, h1, h2, ?_⟩
 rw [List.getElem_map]
 exact h3
theorem idsL_map (l : List ID8) : IdsL (l.map idL) := fun x hx => by
 obtain ⟨t, _, rfl⟩ := List.mem_map.1 hx
 rfl
def PlJ (hv : List (List Nat)) (l : List Bl) (rs : List (List Nat)) (w0 : World) (e : Ending) (w : World) : Prop := Below w0.heap.size w0 w ∧ ∃ (N : List Bl) (oa : Option Addr) (oc : Nat) (c : Int), e = .returned (.tuple #[.slice oa N.length oc, .int .i64 c]) ∧ SAt 2 blC w oa N ∧ N.length ≤ oc ∧ N.length ≤ 1000 ∧
 (c = 0 → PlanOk hv l rs ∧ ∃ seen, planF l hv rs = some (seen, N))
theorem planJ_any (ab ar ai : Option Addr) (cb cr ci : Nat) (hv l : List Bl) (rs : List (List Nat)) (w : World) (hi : SAt 8 idK w ai (hv.map pidL)) (hl : SAt 2 blC w ab l) (hr : SAt 8 idK w ar rs) (r8 : IdsL rs) (zh : hv.length ≤ 9223372036854775807) (zl : l.length ≤ 9223372036854775807) (zr : rs.length ≤ 9223372036854775807) (hT : Tabs w) :
  Calls Tryz.prog 38 #[.slice ai hv.length ci, .slice ab l.length cb, .slice ar rs.length cr] w (PlJ (hv.map pidL) l rs w) := by
 have h := plan_any ai ab ar ci cb cr (hv.map pidL) l rs w hi hl hr (pids_l hv) r8 (by rw [List.length_map]; exact zh) zl zr hT
 rw [List.length_map] at h
 refine h.mono ?_
 rintro e w1 ⟨hb, ⟨hok, seen, N, oa, oc, hp, rfl, ho, hz⟩ | ⟨c, hc, rfl, _⟩⟩
 ·
  exact ⟨hb, N, oa, oc, 0, rfl, own_satW blC_length ho, own_capE ho, hz, fun _ => ⟨hok, seen, hp⟩⟩
 ·
  exact ⟨hb, [], none, 0, c, rfl, fun i hi => absurd hi (by simp), Nat.le_refl _, by simp, fun h => absurd h hc⟩
set_option maxRecDepth 100000 in
set_option maxHeartbeats 4000000 in
theorem fetchFront_any (ah ab ar : Option Addr) (ch cb cr : Nat) (hv l : List Bl) (rs : List (List Nat)) (n : Int) (m : Int) (w : World) (hh : SAt 2 blC w ah hv) (hl : SAt 2 blC w ab l) (hr : SAt 8 idK w ar rs) (r8 : IdsL rs) (zh : hv.length ≤ 8796093022208) (zl : l.length ≤ 9223372036854775807) (zr : rs.length ≤ 9223372036854775807) (hm : MaxL m w) (hT : Tabs w) (hMC : MaxC w) :
  Calls Tryz.prog 11 #[.slice ah hv.length ch, .slice ab l.length cb, .slice ar rs.length cr, .int .i64 n] w fun e w' => e = .returned (.bool true) ∧ Below w.heap.size w w' := by
 have HH := Lib.hid hh
 have HL := Lib.hid hl
 have HR := Lib.hid hr
 have HR8 := Lib.hid r8
 have HT := Lib.hid hT
 have HZ := Lib.hid (And.intro zh (And.intro zl zr))
 have HM := Lib.hid hm
 have HMC := Lib.hid hMC
 clear hh hl hr r8 hT hm hMC zh zl zr
 go_enter Tryz.func11, Tryz.ntmps11
 go_wp2_with fail
 refine (fetched_any m w HM.out HT.out HMC.out).mono ?_
 rintro e w1 ⟨rfl, hb1⟩
 have HB1 := Lib.hid hb1
 clear hb1 HM HMC
 go_wp2_with fail
 refine (idsOfS_any ah ch hv w1 (HH.out.below HB1.out) HZ.out.1).mono ?_
 rintro e u1 ⟨hbu, ia, ic, rfl, hsi⟩
 have HS1 := Lib.hid (HB1.out.trans (hbu.mono HB1.out.size))
 have HSI := Lib.hid hsi
 clear hbu hsi
 go_wp2_with fail
 refine (planJ_any ab ar ia cb cr ic hv l rs u1 HSI.out (HL.out.below HS1.out) (HR.out.below HS1.out) HR8.out (by have := HZ.out; omega) HZ.out.2.1 HZ.out.2.2 (HT.out.below HS1.out)).mono ?_
 rintro e u2 ⟨hbu, N, pa, pc, c, rfl, hsn, hnc, hnz, hpl⟩
 have HS2 := Lib.hid (HS1.out.trans (hbu.mono HS1.out.size))
 have HSN := Lib.hid hsn
 have HPL := Lib.hid hpl
 clear hbu hsn hpl HSI
 by_cases hc0 : c = 0
 rotate_left
 ·
  have d1 : (c != 0) = true := by simpa using hc0
  clear hc0 HPL HSN
  go_wp2_with fail
  go_ret
  exact ⟨rfl, HS2.out⟩
 subst hc0
 obtain ⟨hok, seen, hpf⟩ := HPL.out rfl
 have HOK := Lib.hid hok
 have HPF := Lib.hid hpf
 clear hok hpf HPL
 have HCL := Lib.hid (closed_any ah ch hv u2 (HH.out.below HS2.out) (by have := HZ.out; omega) (HT.out.below HS2.out))
 go_wp2_with fail
 refine HCL.out.mono ?_
 rintro e u3 ⟨hb3, c, rfl, hc, _⟩
 have HS3 := Lib.hid (HS2.out.trans (hb3.mono HS2.out.size))
 have HSN3 := Lib.hid (HSN.out.below hb3)
 clear hb3 HCL HSN
 by_cases hc0 : c = 0
 rotate_left
 ·
  have d1 : (c != 0) = true := by simpa using hc0
  clear hc0 hc
  go_wp2_with fail
  go_ret
  exact ⟨rfl, HS3.out⟩
 have HCH := Lib.hid (hc.1 hc0)
 subst hc0
 clear hc
 have n1 : (0 : Int) < (N.length : Int) + 1 := by omega
 have n2 : (N.length : Int) + 1 < 4611686018427387904 := by omega
 have n3 : IntKind.i64.wrap ((N.length : Int) + 1) = (N.length : Int) + 1 := wraps_i64 _ (by omega) (by omega)
 have HRS := Lib.hid fun u => rest_any n ((N.length : Int) + 1) u n1 n2
 go_wp2_with fail
 refine (HRS.out _).mono ?_
 rintro e u4 ⟨⟨k, hk, rfl⟩, rfl⟩
 have hkn : k ≤ N.length := by omega
 have k0 : (0 : Int) ≤ (k : Int) := Int.natCast_nonneg _
 have k1 : (k : Int) ≤ (N.length : Int) := by omega
 have k2 : (k : Int) ≤ (pc : Int) := by omega
 have htl : (N.take k).length = k := by rw [List.length_take]; omega
 have HIN := Lib.hid (show Calls Tryz.prog 40 #[.slice ah hv.length ch, .slice pa k pc] u4 (IntoEnd hv (N.take k) u4) from by
  have h := into_any ah pa ch pc hv (N.take k) u4 (HH.out.below HS3.out) (sat_cut HSN3.out k) (by have := HZ.out; omega) (by omega) (HT.out.below HS3.out)
  rw [htl] at h
  exact h)
 clear HRS n1 n2 n3 hk htl
 go_wp2_with fail
 refine HIN.out.mono ?_
 rintro e u5 ⟨hb5, ⟨O, oa, oc, hir, hco, hhl, hol, rfl, ho⟩ | ⟨c, hc, rfl, hbad⟩⟩
 ·
  have HS5 := Lib.hid (HS3.out.trans (hb5.mono HS3.out.size))
  have hcl := closed_any oa oc O u5 (own_satW blC_length ho) (by omega) (HT.out.below HS5.out)
  have HCL := Lib.hid hcl
  have HGD : Hid (O.length ≤ 1000 ∧ Cons O ∧ ClosedL O) := Lib.hid ⟨hol, hco, hir.closed HCH.out.2.2⟩
  clear hb5 hir hco hhl hol ho hcl HIN
  go_wp2_with fail
  refine HCL.out.mono ?_
  rintro e u6 ⟨hb6, c, rfl, hc, _⟩
  obtain rfl : c = 0 := hc.2 HGD.out
  have HS6 := Lib.hid (HS5.out.trans (hb6.mono HS5.out.size))
  clear hb6 hc
  go_wp2_with fail
  go_ret
  exact ⟨rfl, HS6.out⟩
 ·
  have HS5 := Lib.hid (HS3.out.trans (hb5.mono HS3.out.size))
  have hcs := into_front k HCH.out.1 HCH.out.2.1 HPF.out hbad
  clear hb5 hbad HIN
  rcases hcs with rfl | rfl | ⟨rfl, hcy⟩
  ·
   clear hc
   go_wp2_with fail
   go_ret
   exact ⟨rfl, HS5.out⟩
  ·
   clear hc
   go_wp2_with fail
   go_ret
   exact ⟨rfl, HS5.out⟩
  ·
   have HCY := Lib.hid (cyclic_any ab cb l u5 (HL.out.below HS5.out) HOK.out.2.2.1 HOK.out.2.2.2 hcy (HT.out.below HS5.out))
   clear hc hcy
   go_wp2_with fail
   refine HCY.out.mono ?_
   rintro e u6 ⟨rfl, hb6⟩
   have HS6 := Lib.hid (HS5.out.trans (hb6.mono HS5.out.size))
   clear hb6
   go_wp2_with fail
   go_ret
   exact ⟨rfl, HS6.out⟩
end Go.Proofs.YtbfoonfbhebhfaaGreatDoor
namespace Go.Proofs.YtbfoonfbhebhfaaGreatDoor
open Go.RowKit Go.ChangeShapes Go.WideShapes Go.ChangeAt Plain
theorem len_wtF {H : Type} {P : Program} {t e : TypeId} {α : Type} {l : List α} {d : DataW H} {n : Nat} (ht : P.underlying t = some (.slice e)) (hn : P.bytesOf e = n) (h : l = [] ∨ ∃ elems spare, d = .slice elems spare ∧ elems.length = l.length) (hw : ∀ q ∈ d.weights P t, q ≤ reachBytes) : l.length * n ≤ reachBytes := by
 rcases h with rfl | ⟨e', s, rfl, h⟩
 ·
  simp
 ·
  have := hw ((e'.length + s.length) * P.bytesOf e) (by simp only [DataW.weights, ht]; exact List.mem_cons_self)
  rw [hn, Nat.add_mul, h] at this
  omega
set_option maxRecDepth 100000 in
theorem open_blobsW {H : Type} {enc : TypeId × Value → H} {W : World} {r : Reach} {base b0 : Nat} {sp : Nat → Bool} {held : Bool} {v : Value} {d : DataW H} {p : List MemPlace} (ho : Value.okWide Tryz.prog W r b0 28 v) (hd : DataW.Trod enc Tryz.prog W base sp held 28 v d p) (hw : ∀ q ∈ d.weights Tryz.prog 28, q ≤ reachBytes) :
  ∃ (a : Option Addr) (l : List Bl) (cap : Nat), v = .slice a l.length cap ∧ l.length ≤ 8796093022208 ∧ SAt 2 blC W a l := by
 obtain ⟨a, l, cap, rfl, h1, h2, _, h4, h5⟩ := SAt.open_ (n := 2) (c := blC) (fun _ => True) Tryz.underlying28 cells_blO (by decide) blC_length read_blO ho hd
 have hb := len_wtF (P := Tryz.prog) (t := 28) Tryz.underlying28 (by kernel_rfl : Tryz.prog.bytesOf 37 = 24) h5 hw
 unfold reachBytes at hb
 exact ⟨a, l, cap, rfl, by omega, h4⟩
end Go.Proofs.YtbfoonfbhebhfaaGreatDoor
