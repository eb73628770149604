/- What the calls of the journal answer, told for the laws; JournalBack's walk. -/
import Derived.Test.YtbmklkjjkjgehaaDoorScanW
namespace Go.Proofs.YtbmklkjjkjgehaaDoor
open Go.RowKit Plain
theorem strs_injJ : ∀ {l m : List ByteArray}, l.map strN = m.map strN → l = m
  | [], [], _ => rfl
  | [], _ :: _, h => by cases h
  | _ :: _, [], h => by cases h
  | x :: l, y :: m, h => by
    simp only [List.map_cons, List.cons.injEq] at h
    rw [strs_injJ h.2, show x = y by rw [← strOf_strN x, h.1, strOf_strN]]
theorem SAt.pre {α : Type} {n : Nat} {c : α → List Value} {w : World} {a : Option Addr} {l m : List α} (h : SAt n c w a (l ++ m)) : SAt n c w a l := by
  intro i hi
  obtain ⟨g, off, e, hg, hr⟩ := h i (by rw [List.length_append]; omega)
  refine ⟨g, off, e, hg, ?_⟩
  rwa [List.getElem_append_left hi] at hr
theorem stepF_pos {s r : List Nat} {k : Nat} (h : stepF idf s = some (r, k)) : 1 ≤ k ∧ k ≤ s.length := by
  unfold stepF at h
  split at h
  · split at h
    · cases h
    · rename_i h2
      simp only [Option.some.injEq, Prod.mk.injEq] at h
      omega
  · cases h
theorem scan_some (s : List Nat) : ∃ m n, Scan idf s m n := by
  obtain ⟨k, hk⟩ : ∃ k, s.length ≤ k := ⟨_, Nat.le_refl _⟩
  induction k generalizing s with
  | zero =>
    obtain rfl : s = [] := List.eq_nil_of_length_eq_zero (by omega)
    exact ⟨[], 0, .stop stepF_nil⟩
  | succ k ih =>
    cases e : stepF idf s with
    | none => exact ⟨[], 0, .stop e⟩
    | some x =>
      obtain ⟨r, j⟩ := x
      have h := stepF_pos e
      obtain ⟨m, n, hmn⟩ := ih (s.drop j) (by rw [List.length_drop]; omega)
      exact ⟨r :: m, j + n, .go e hmn⟩
theorem num_one : Num 1 [1, 1] := ⟨[1], ⟨⟨by simp, by simp⟩, by simp, rfl⟩, rfl⟩
/-- the frame of a short record -/
theorem frame_a (u : World) : Calls Tryd.prog 11 #[.string ⟨#[97]⟩] u fun e w => ∃ f : ByteArray, f.size = 11 ∧ e = .returned (.tuple #[.string f, .int .i64 0]) ∧ Below u.heap.size u w := by
  refine (frame_any ⟨#[97]⟩ u (by decide)).mono ?_
  rintro e w ⟨⟨h, _⟩ | ⟨f, hf, _, rfl⟩, hb⟩
  · exact absurd h (by decide)
  · refine ⟨f, ?_, rfl, hb⟩
    obtain ⟨_, p, hp, e⟩ := hf
    have h1 : p = [1, 1] := Num.unique hp num_one
    have h2 := congrArg List.length e
    rw [strN_length, h1, List.length_append, idf_length] at h2
    exact h2
/-- what was written is scanned -/
theorem scan_all (l : List ByteArray) (t : ByteArray) (ht : Frms idf (l.map strN) (strN t)) (hs : t.size ≤ 65536) (u : World) : Calls Tryd.prog 13 #[.string t] u fun e w => ∃ a c, l.length ≤ 65536 ∧ l.length ≤ c ∧ e = .returned (.tuple #[.slice a l.length c, .int .i64 (t.size : Int)]) ∧ SAt 1 sC w a l ∧ Below u.heap.size u w := by
  refine (scan_any t u (by omega)).mono ?_
  rintro e w ⟨rs, p, a, c, hsc, hp, hr, rfl, hown, hb⟩
  obtain ⟨e1, e2⟩ := hsc.unique (ht.all idf_length)
  rw [strN_length] at e2
  obtain rfl := strs_injJ e1
  subst e2
  obtain ⟨a', c', hv, h1, _, hsat⟩ := SAt.own hown sC_length
  cases hv
  exact ⟨a, c, by omega, h1, rfl, hsat, hb⟩
/-- .. whatever stands behind -/
theorem scan_more (l : List ByteArray) (t more : ByteArray) (ht : Frms idf (l.map strN) (strN t)) (hs : t.size ≤ 65536) (hm : more.size ≤ 1048576) (u : World) : Calls Tryd.prog 13 #[.string (t ++ more)] u fun e w => ∃ (a : Option Addr) (r c j : Nat), l.length ≤ r ∧ r ≤ c ∧ r ≤ 70000000 ∧ t.size ≤ j ∧ e = .returned (.tuple #[.slice a r c, .int .i64 (j : Int)]) ∧ SAt 1 sC w a l ∧ Below u.heap.size u w := by
  have ha : strN (t ++ more) = strN t ++ strN more := by simp [strN]
  have hz : (t ++ more).size = t.size + more.size := by simp
  refine (scan_any (t ++ more) u (by omega)).mono ?_
  rintro e w ⟨rs, p, a, c, hsc, hp, hr, rfl, hown, hb⟩
  obtain ⟨m, n, hmn⟩ : ∃ m n, Scan idf (strN more) m n := scan_some _
  rw [ha] at hsc
  obtain ⟨e1, e2⟩ := hsc.unique (ht.scan idf_length hmn)
  rw [strN_length] at e2
  have e3 : l.length ≤ rs.length := by
    have := congrArg List.length e1
    rw [List.length_map, List.length_append, List.length_map] at this
    omega
  have e4 : rs = l ++ rs.drop l.length := by
    conv => lhs; rw [← List.take_append_drop l.length rs]
    congr 1
    refine strs_injJ ?_
    rw [List.map_take, e1, ← List.length_map (f := strN), List.take_left]
  obtain ⟨a', c', hv, h1, _, hsat⟩ := SAt.own hown sC_length
  cases hv
  rw [e4] at hsat
  exact ⟨a, rs.length, c, p, e3, h1, by omega, by omega, rfl, hsat.pre, hb⟩
set_option maxRecDepth 100000 in
set_option maxHeartbeats 1000000 in
theorem journalBack_any (pa : Option Addr) (pc : Nat) (l : List ByteArray) (more : ByteArray) (w : World) (hl : SAt 1 sC w pa l) (hn : l.length ≤ 9223372036854775807) (hs : ∀ y ∈ l, y.size ≤ 9223372036854775807) (hm : more.size ≤ 1048576) :
    Calls Tryd.prog 4 #[.slice pa l.length pc, .string more] w fun e w' => e = .returned (.bool true) ∧ Below w.heap.size w w' := by
  have HL := Lib.hid hl
  have HFA := Lib.hid frame_a
  have HALL : Hid (∀ u, Below w.heap.size w u → Calls Tryd.prog 12 #[.slice pa l.length pc] u (AllEnd u l)) := fun u hu => all_any pa pc l u (hl.below hu) hn hs
  clear hs hl
  go_enter Tryd.func4, Tryd.ntmps4
  go_wp2_with fail
  refine (HFA.out _).mono ?_
  rintro e w1 ⟨f, hf11, rfl, hb1⟩
  have B1 := Lib.hid hb1
  clear hb1
  go_wp2_with fail
  refine (HALL.out _ B1.out).mono ?_
  rintro e w2 ⟨⟨t, hfr, ht, rfl⟩ | ⟨c, hc0, _, rfl⟩, hb2⟩
  · have B2 := Lib.hid (Below.step B1.out hb2)
    have HS1 := Lib.hid (scan_all l t hfr ht)
    have HS2 := Lib.hid (scan_more l t more hfr ht hm)
    have hz : t.size + more.size ≤ 9223372036854775807 := by omega
    clear hfr hb2 HALL HFA B1
    go_wp2_with fail
    refine (HS1.out _).mono ?_
    rintro e w3 ⟨ra, rc, hl6, hrc, rfl, hsat, hb3⟩
    have B3 := Lib.hid (Below.step B2.out hb3)
    have R1 := Lib.hid hsat
    clear hsat hb3 HS1 B2
    go_wp2_with fail
    refine (HS2.out _).mono ?_
    rintro e w4 ⟨qa, r, qc, j, hlr, hrq, hr7, htj, rfl, hsat, hb4⟩
    have B4 := Lib.hid (Below.step B3.out hb4)
    have HE1 := Lib.hid (eqStr_any ra pa rc pc l l w4 (R1.out.below hb4) (HL.out.below B4.out) hn hn)
    have HE2 : Hid (∀ u, Below w4.heap.size w4 u → Calls Tryd.prog 10 #[.slice qa l.length qc, .slice pa l.length pc] u fun e w' => e = .returned (.bool (decide (l = l))) ∧ ∃ q, w' = u.drewN q) := fun u hu => eqStr_any qa pa qc pc l l u (hsat.below hu) (HL.out.below (Below.step B4.out hu)) hn hn
    rw [decide_eq_true rfl] at HE1 HE2
    have k1 : (t.size : Int) ≤ (j : Int) := by omega
    have k2 : (l.length : Int) ≤ (r : Int) := by omega
    have k3 : (l.length : Int) ≤ (qc : Int) := by omega
    have k0 : (0 : Int) ≤ (l.length : Int) := Int.natCast_nonneg _
    clear hsat hb4 HS2 B3 R1 HL
    go_wp2_with fail
    refine (HE1.out).mono ?_
    rintro e w5 ⟨rfl, q, rfl⟩
    go_wp2_with fail
    refine (HE2.out _ (below_dn (Below.refl _ _) q)).mono ?_
    rintro e w6 ⟨rfl, q2, rfl⟩
    go_wp2_with fail
    go_ret
    exact ⟨rfl, below_dn B4.out _⟩
  · have B2 := Lib.hid (Below.step B1.out hb2)
    have f0 : ((c : Int) != 0) = true := by simpa using hc0
    clear hb2 HALL HFA hc0
    go_wp2_with fail
    go_ret
    exact ⟨rfl, B2.out⟩
end Go.Proofs.YtbmklkjjkjgehaaDoor
