/- Joined: FetchE2. -/
import Derived.Test.YtbfoonfbhebhfaaGreatDoorKGpM
import Derived.Test.YtbfoonfbhebhfaaGreatDoorKGnM
import Derived.Test.YtbfoonfbhebhfaaGreatDoorKGoJ
namespace Go.Proofs.YtbfoonfbhebhfaaGreatDoor
open Go.RowKit Plain Go.Maps
set_option linter.unusedVariables false
set_option linter.unusedSimpArgs false
theorem wp_join {P : Program} {code : Code} {Q : Exit → Act → World → Prop} {l : List Value} {df : List Deferred} {w : World} {α : Type} (upd : α → List (Nat × Value)) (F : α → World → Prop)
  (h1 : code.wp P (fun e ac u => e = .normal ∧ ∃ x, ac = Act.mk (setAll l (upd x)).toArray df ∧ F x u) ⟨l.toArray, df⟩ w)
  (h2 : ∀ x u, F x u → Q .normal ⟨(setAll l (upd x)).toArray, df⟩ u) : code.wp P Q ⟨l.toArray, df⟩ w := by
 refine Code.wp_mono (Q := fun e ac u => e = .normal ∧ ∃ x, ac = Act.mk (setAll l (upd x)).toArray df ∧ F x u) ?_ h1
 rintro e ac u ⟨rfl, x, rfl, hf⟩
 exact h2 x u hf
theorem sat_oneK {w : World} {g : Nat} {y : List Nat} (hg : g < w.heap.size) (h : w.rangeAt g 0 (idK y)) : SAt 8 idK w (some ⟨g, 0, none⟩) [y] := fun i hi => by
 obtain rfl : i = 0 := by simpa using hi
 exact ⟨g, 0, rfl, hg, by simpa using h⟩
theorem own_capE {w : World} {B : Nat} {T : TypeId} {k n c : Nat} {a : Option Addr} {xs : List Value} (h : w.ownsRow B T k (.slice a n c) n xs) : n ≤ c := by
 rcases h.2 with ⟨h0, h1⟩ | ⟨g, cap, cur, h0, hB, hg, hn, _⟩
 ·
  omega
 ·
  injection h0 with _ _ h3
  omega
theorem plan_sent_any (ia ob ya : Option Addr) (ic oc yc : Nat) (L M : List Bl) (y : List Nat) (u : World) (hL : SAt 8 idK u ia (L.map pidL)) (hM : SAt 2 blC u ob M) (hy : SAt 8 idK u ya [y]) (y8 : y.length = 8) (H : PlM M) (hz : L.length + M.length ≤ 1000) (hin : ∃ b ∈ M, pidL b = y) (hT : Tabs u) :
  Calls Tryz.prog 38 #[.slice ia L.length ic, .slice ob M.length oc, .slice ya 1 yc] u fun e w' => Below u.heap.size u w' ∧ ∃ (N : List Bl) (pa : Option Addr) (pc : Nat), e = .returned (.tuple #[.slice pa N.length pc, .int .i64 0]) ∧ SAt 2 blC w' pa N ∧ N.length ≤ pc ∧ N.length ≤ 1000 ∧ Sends (L.map pidL) M y N := by
 have h := plan_any ia ob ya ic oc yc (L.map pidL) M [y] u hL hM hy (pids_l L) (fun x hx => by rw [List.mem_singleton.1 hx]; exact y8) (by rw [List.length_map]; omega) (by omega) (by simp) hT
 rw [List.length_map] at h
 refine h.mono ?_
 obtain ⟨b, hb, e⟩ := hin
 obtain ⟨k, hk, e2⟩ := List.mem_iff_getElem.1 hb
 subst e2
 subst e
 obtain ⟨seen, N, hp, hs⟩ := plan_ok H (by omega) (L.map pidL) hk
 have hok : PlanOk (L.map pidL) M [pidL M[k]] := ⟨by rw [List.length_map]; omega, by simp, by omega, H.cons⟩
 rintro e w1 ⟨hb1, ⟨_, s2, out, oa, oc2, hpf, rfl, ho, hz2⟩ | ⟨c, _, rfl, hno⟩⟩
 ·
  rw [hp] at hpf
  have e3 := Option.some.inj hpf
  obtain ⟨_, rfl⟩ := Prod.mk.inj e3
  exact ⟨hb1, N, oa, oc2, rfl, own_satW blC_length ho, own_capE ho, hz2, hs⟩
 ·
  rw [hno hok] at hp
  cases hp
theorem plan_seen_any (ia ob ya : Option Addr) (ic oc yc : Nat) (L M : List Bl) (y : List Nat) (u : World) (hL : SAt 8 idK u ia (L.map pidL)) (hM : SAt 2 blC u ob M) (hy : SAt 8 idK u ya [y]) (y8 : y.length = 8) (hc : Cons M) (hz : L.length ≤ 1000) (hzM : M.length ≤ 1000) (hin : y ∈ L.map pidL) (hT : Tabs u) :
  Calls Tryz.prog 38 #[.slice ia L.length ic, .slice ob M.length oc, .slice ya 1 yc] u fun e w' => Below u.heap.size u w' ∧ ∃ (pa : Option Addr) (pc : Nat), e = .returned (.tuple #[.slice pa 0 pc, .int .i64 0]) := by
 have h := plan_any ia ob ya ic oc yc (L.map pidL) M [y] u hL hM hy (pids_l L) (fun x hx => by rw [List.mem_singleton.1 hx]; exact y8) (by rw [List.length_map]; omega) (by omega) (by simp) hT
 rw [List.length_map] at h
 refine h.mono ?_
 have hp := plan_none (M := M) hin
 have hok : PlanOk (L.map pidL) M [y] := ⟨by rw [List.length_map]; omega, by simp, by omega, hc⟩
 rintro e w1 ⟨hb1, ⟨_, s2, out, oa, oc2, hpf, rfl, ho, hz2⟩ | ⟨c, _, rfl, hno⟩⟩
 ·
  rw [hp] at hpf
  have e3 := Option.some.inj hpf
  obtain ⟨_, rfl⟩ := Prod.mk.inj e3
  exact ⟨hb1, oa, oc2, rfl⟩
 ·
  rw [hno hok] at hp
  cases hp
theorem into_sent_any (ah ab : Option Addr) (ch cb : Nat) (L M N : List Bl) (y : List Nat) (w : World) (hh : SAt 2 blC w ah L) (hq : SAt 2 blC w ab N) (HL : PlM L) (HM : PlM M) (hs : Sends (L.map pidL) M y N) (hz : L.length + N.length ≤ 1000) (hT : Tabs w) :
  Calls Tryz.prog 40 #[.slice ah L.length ch, .slice ab N.length cb] w fun e w' => Below w.heap.size w w' ∧ ∃ (oa : Option Addr) (oc : Nat), e = .returned (.tuple #[.slice oa (L ++ N).length oc, .int .i64 0]) ∧ SAt 2 blC w' oa (L ++ N) := by
 refine (into_any ah ab ch cb L N w hh hq (by omega) (by omega) hT).mono ?_
 rintro e w1 ⟨hb, ⟨O, oa, oc, hr, _, _, _, rfl, ho⟩ | ⟨c, _, rfl, hbad⟩⟩
 ·
  have e := into_is hs hr
  subst e
  exact ⟨hb, oa, oc, rfl, own_satW blC_length ho⟩
 ·
  exact absurd hbad (into_good HL HM hs hz c)
end Go.Proofs.YtbfoonfbhebhfaaGreatDoor
