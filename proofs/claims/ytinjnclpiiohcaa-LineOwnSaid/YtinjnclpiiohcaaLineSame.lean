/- line.Hears and line.Takes whatever they answer; the walks of R.SameSender and R.SameReceiver. -/
import Derived.Test.YtinjnclpiiohcaaAmpleSt
import Derived.Test.YtinjnclpiiohcaaAmpleBo
import Derived.Test.YtinjnclpiiohcaaStaysPk
namespace Go.Proofs.Ytinjnclpiiohcaa
open Go.RowKit Plain
set_option linter.unusedVariables false
set_option linter.unusedSimpArgs false
def HRel (T : List ByteArray) (had : List Bool) (b : Int) (p : PkT) (T' : List ByteArray) (H' : List Bool) (B' : Nat) : Prop :=
  (¬ SOk T had b ∧ T' = [] ∧ H' = [] ∧ B' = 0) ∨ (SOk T had b ∧ T' = T ∧ H' = hear had p ∧ Adv (hear had p) b.toNat B')
theorem HRel.unique {T X Y : List ByteArray} {had H K : List Bool} {b : Int} {p : PkT} {B C : Nat} (h : HRel T had b p X H B) (g : HRel T had b p Y K C) : X = Y ∧ H = K ∧ B = C := by
  rcases h with ⟨n, rfl, rfl, rfl⟩ | ⟨n, rfl, rfl, ha⟩ <;> rcases g with ⟨m, rfl, rfl, rfl⟩ | ⟨m, rfl, rfl, hb⟩
  · exact ⟨rfl, rfl, rfl⟩
  · exact absurd m n
  · exact absurd n m
  · exact ⟨rfl, rfl, ha.unique hb⟩
def HgEnd (w0 : World) (T : List ByteArray) (had : List Bool) (b : Int) (p : PkT) (e : Ending) (w : World) : Prop := Below w0.heap.size w0 w ∧ ∃ (T' : List ByteArray) (H' : List Bool) (a1 : Option Addr) (c1 : Nat) (a2 : Option Addr) (c2 B' c : Nat), e = .returned (.tuple #[.agg #[.slice a1 T'.length c1, .slice a2 H'.length c2, .int .i64 (B' : Int)], .int .i64 (c : Int)]) ∧
  SAt 1 stC w a1 T' ∧ SAt 1 boC w a2 H' ∧ NB w0.heap.size a1 ∧ NB w0.heap.size a2 ∧ T'.length ≤ 2000 ∧ H'.length ≤ 2000 ∧ HRel T had b p T' H' B'
theorem nb_none (B : Nat) : NB B none := fun ad e => by cases e
theorem hearsG_any (ta ha : Option Addr) (tc hc : Nat) (T : List ByteArray) (had : List Bool) (b : Int) (p : PkT) (w : World) (ht : SAt 1 stC w ta T) (hh : SAt 1 boC w ha had) (nt : T.length ≤ 9223372036854775807) (nh : had.length ≤ 9223372036854775807) :
    Calls Try.prog 14 #[.agg #[.slice ta T.length tc, .slice ha had.length hc, .int .i64 b], .agg (pkC p).toArray] w (HgEnd w T had b p) := by
  refine (hears_any ta ha tc hc T had b p w ht hh nt nh).mono ?_
  rintro e w' ⟨hb, h⟩
  rcases h with ⟨hn, c, _, rfl⟩ | ⟨hn, a1, c1, a2, c2, b', rfl, h1, h2, n1, n2, ha⟩
  · exact ⟨hb, [], [], none, 0, none, 0, 0, c, rfl, SAt.nil, SAt.nil, nb_none _, nb_none _, by simp, by simp, .inl ⟨hn, rfl, rfl, rfl⟩⟩
  · exact ⟨hb, T, hear had p, a1, c1, a2, c2, b', 0, rfl, h1, h2, n1, n2, hn.1, by rw [hear_length, hn.2.1]; exact hn.1, .inr ⟨hn, rfl, rfl, ha⟩⟩
def TRel (got : List ByteArray) (held : List PkT) (p : PkT) (G' : List ByteArray) (M' : List PkT) : Prop :=
  (¬ ROk got.length held ∧ G' = [] ∧ M' = []) ∨ (ROk got.length held ∧ ∃ more, Take ⟨#[]⟩ got held p G' M' more)
theorem TRel.unique {got X Y : List ByteArray} {held M K : List PkT} {p : PkT} (h : TRel got held p X M) (g : TRel got held p Y K) : X = Y ∧ M = K := by
  rcases h with ⟨n, rfl, rfl⟩ | ⟨n, x, ha⟩ <;> rcases g with ⟨m, rfl, rfl⟩ | ⟨m, y, hb⟩
  · exact ⟨rfl, rfl⟩
  · exact absurd m n
  · exact absurd n m
  · exact ⟨(ha.unique hb).1, (ha.unique hb).2.1⟩
theorem take_bound {got got' : List ByteArray} {held held' more : List PkT} {p : PkT} {e : ByteArray} (h : Take e got held p got' held' more) : got'.length ≤ got.length + held.length + 1 ∧ held'.length ≤ held.length + 1 := by
  rcases h with ⟨_, rfl, rfl, _⟩ | ⟨_, _, _, _, _, l, k, hl, _, rfl, rfl⟩
  · omega
  · have h2 : l.length ≤ held.length + 1 := by
      rcases hl with ⟨_, rfl⟩ | ⟨_, _, hp⟩
      · omega
      · rw [put_length hp]
        omega
    simp only [List.length_append, List.length_map, List.length_take, List.length_drop]
    omega
def TgEnd (w0 : World) (got : List ByteArray) (held : List PkT) (p : PkT) (e : Ending) (w : World) : Prop := Below w0.heap.size w0 w ∧ ∃ (G' : List ByteArray) (M' : List PkT) (a1 : Option Addr) (c1 : Nat) (a2 : Option Addr) (c2 : Nat) (a3 : Option Addr) (n3 c3 c : Nat), e = .returned (.tuple #[.agg #[.slice a1 G'.length c1, .slice a2 M'.length c2], .slice a3 n3 c3, .int .i64 (c : Int)]) ∧
  SAt 1 stC w a1 G' ∧ SAt 3 pkC w a2 M' ∧ NB w0.heap.size a1 ∧ NB w0.heap.size a2 ∧ G'.length ≤ 3000 ∧ M'.length ≤ 3000 ∧ TRel got held p G' M'
theorem takesG_any (ga la : Option Addr) (gc lc : Nat) (got : List ByteArray) (held : List PkT) (p : PkT) (w : World) (ht : SAt 1 stC w ga got) (hh : SAt 3 pkC w la held) (ng : got.length ≤ 9223372036854775807) (nh : held.length ≤ 9223372036854775807) :
    Calls Try.prog 15 #[.agg #[.slice ga got.length gc, .slice la held.length lc], .agg (pkC p).toArray] w (TgEnd w got held p) := by
  refine (takes_any ga la gc lc got held p w ht hh ng nh).mono ?_
  rintro e w' ⟨hb, h⟩
  rcases h with ⟨hn, c, _, rfl⟩ | ⟨hn, G', M', more, a1, c1, a2, c2, a3, c3, rfl, h1, h2, _, n1, n2, ha⟩
  · exact ⟨hb, [], [], none, 0, none, 0, none, 0, 0, c, rfl, SAt.nil, SAt.nil, nb_none _, nb_none _, by simp, by simp, .inl ⟨hn, rfl, rfl⟩⟩
  · have h5 := take_bound ha
    have h6 := hn.1
    have h7 := hn.2.1
    exact ⟨hb, G', M', a1, c1, a2, c2, a3, more.length, c3, 0, rfl, h1, h2, n1, n2, by omega, by omega, .inr ⟨hn, more, ha⟩⟩
set_option maxRecDepth 100000 in
set_option maxHeartbeats 1600000 in
theorem sameSender_any (a1 a2 x1 x2 : Option Addr) (c1 c2 d1 d2 : Nat) (T : List ByteArray) (H : List Bool) (B : Int) (w : World) (h1 : SAt 1 stC w a1 T) (h2 : SAt 1 boC w a2 H) (h3 : SAt 1 stC w x1 T) (h4 : SAt 1 boC w x2 H) (nT : T.length ≤ 2000) (nH : H.length ≤ 2000) :
    Calls Try.prog 22 #[.agg #[.slice a1 T.length c1, .slice a2 H.length c2, .int .i64 B], .agg #[.slice x1 T.length d1, .slice x2 H.length d2, .int .i64 B]] w fun e w' => e = .returned (.bool true) ∧ Below w.heap.size w w' := by
  have HE1 := Lib.hid fun u (hb : Below w.heap.size w u) => eqStB_any a1 x1 c1 d1 T T u (h1.below hb) (h3.below hb) (by omega) (by omega)
  have HE2 := Lib.hid fun u (hb : Below w.heap.size w u) => eqBoB_any a2 x2 c2 d2 H H u (h2.below hb) (h4.below hb) (by omega) (by omega)
  have g1 : decide (T = T) = true := decide_eq_true rfl
  have g2 : decide (H = H) = true := decide_eq_true rfl
  rw [g1] at HE1
  rw [g2] at HE2
  clear g1 g2
  have HB0 := Lib.hid (((Below.refl w.heap.size w).alloc (Nat.le_refl _) (.cells #[.slice a1 T.length c1, .slice a2 H.length c2, .int .i64 B] 25)).alloc (by simp) (.cells #[.slice x1 T.length d1, .slice x2 H.length d2, .int .i64 B] 25))
  have h0 := heap_twoK w (.cells #[.slice a1 T.length c1, .slice a2 H.length c2, .int .i64 B] 25) (.cells #[.slice x1 T.length d1, .slice x2 H.length d2, .int .i64 B] 25)
  have HR1 := Lib.hid h0.1
  have HR2 := Lib.hid h0.2
  clear h0 h1 h2 h3 h4
  go_enter Try.func22, Try.ntmps22
  go_wp2_with fail
  refine (HE1.out _ HB0.out).mono ?_
  rintro e w1 ⟨rfl, hb1⟩
  have HB1 := Lib.hid (Below.next HB0.out hb1 (by simp <;> omega))
  have HQ1 := Lib.hid ((hb1.block _ (lt_of_block HR1.out)).trans HR1.out)
  have HQ2 := Lib.hid ((hb1.block _ (lt_of_block HR2.out)).trans HR2.out)
  clear hb1 HR1 HR2
  have r1 := cell_of_row _ _ 1 _ _ _ HQ1.out
  have r2 := cell_of_row _ _ 1 _ _ _ HQ2.out
  simp only [List.getElem?_toArray, List.getElem?_cons_succ, List.getElem?_cons_zero] at r1 r2
  go_wp2_with fail
  refine (HE2.out _ HB1.out).mono ?_
  rintro e w2 ⟨rfl, hb2⟩
  have HB2 := Lib.hid (Below.step HB1.out hb2)
  have HU1 := Lib.hid ((hb2.block _ (lt_of_block HQ1.out)).trans HQ1.out)
  have HU2 := Lib.hid ((hb2.block _ (lt_of_block HQ2.out)).trans HQ2.out)
  clear hb2 HQ1 HQ2 r1 r2
  have r1 := cell_of_row _ _ 2 _ _ _ HU1.out
  have r2 := cell_of_row _ _ 2 _ _ _ HU2.out
  simp only [List.getElem?_toArray, List.getElem?_cons_succ, List.getElem?_cons_zero] at r1 r2
  go_wp2_with fail
  go_ret
  exact ⟨by simp, HB2.out⟩
set_option maxRecDepth 100000 in
set_option maxHeartbeats 1600000 in
theorem sameReceiver_any (a1 a2 x1 x2 : Option Addr) (c1 c2 d1 d2 : Nat) (T : List ByteArray) (H : List PkT) (w : World) (h1 : SAt 1 stC w a1 T) (h2 : SAt 3 pkC w a2 H) (h3 : SAt 1 stC w x1 T) (h4 : SAt 3 pkC w x2 H) (nT : T.length ≤ 3000) (nH : H.length ≤ 3000) :
    Calls Try.prog 23 #[.agg #[.slice a1 T.length c1, .slice a2 H.length c2], .agg #[.slice x1 T.length d1, .slice x2 H.length d2]] w fun e w' => e = .returned (.bool true) ∧ Below w.heap.size w w' := by
  have HE1 := Lib.hid fun u (hb : Below w.heap.size w u) => eqStB_any a1 x1 c1 d1 T T u (h1.below hb) (h3.below hb) (by omega) (by omega)
  have HE2 : Hid (∀ u, Below w.heap.size w u → Calls Try.prog 55 #[.slice a2 H.length c2, .slice x2 H.length d2] u fun e w' => e = .returned (.bool true) ∧ Below u.heap.size u w') := fun u hb => by
    refine (eqPks_any a2 x2 c2 d2 H H u (h2.below hb) (h4.below hb) (by omega) (by omega)).mono ?_
    rintro e w' ⟨⟨r, rfl, hr⟩, hb⟩
    obtain rfl : r = true := hr.2 rfl
    exact ⟨rfl, hb⟩
  have g1 : decide (T = T) = true := decide_eq_true rfl
  rw [g1] at HE1
  clear g1
  have HB0 := Lib.hid (((Below.refl w.heap.size w).alloc (Nat.le_refl _) (.cells #[.slice a1 T.length c1, .slice a2 H.length c2] 28)).alloc (by simp) (.cells #[.slice x1 T.length d1, .slice x2 H.length d2] 28))
  have h0 := heap_twoK w (.cells #[.slice a1 T.length c1, .slice a2 H.length c2] 28) (.cells #[.slice x1 T.length d1, .slice x2 H.length d2] 28)
  have HR1 := Lib.hid h0.1
  have HR2 := Lib.hid h0.2
  clear h0 h1 h2 h3 h4
  go_enter Try.func23, Try.ntmps23
  go_wp2_with fail
  refine (HE1.out _ HB0.out).mono ?_
  rintro e w1 ⟨rfl, hb1⟩
  have HB1 := Lib.hid (Below.next HB0.out hb1 (by simp <;> omega))
  have HQ1 := Lib.hid ((hb1.block _ (lt_of_block HR1.out)).trans HR1.out)
  have HQ2 := Lib.hid ((hb1.block _ (lt_of_block HR2.out)).trans HR2.out)
  clear hb1 HR1 HR2
  have r1 := cell_of_row _ _ 1 _ _ _ HQ1.out
  have r2 := cell_of_row _ _ 1 _ _ _ HQ2.out
  simp only [List.getElem?_toArray, List.getElem?_cons_succ, List.getElem?_cons_zero] at r1 r2
  go_wp2_with fail
  refine (HE2.out _ HB1.out).mono ?_
  rintro e w2 ⟨rfl, hb2⟩
  have HB2 := Lib.hid (Below.step HB1.out hb2)
  clear hb2 HQ1 HQ2 r1 r2
  go_wp2_with fail
  go_ret
  exact ⟨rfl, HB2.out⟩
end Go.Proofs.Ytinjnclpiiohcaa
