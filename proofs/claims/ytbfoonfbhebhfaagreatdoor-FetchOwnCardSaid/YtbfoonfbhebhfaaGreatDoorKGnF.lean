/- Joined: NamesCmp, WalkItem. -/
import Derived.Test.YtbfoonfbhebhfaaGreatDoorKGnC
import Derived.Test.YtbfoonfbhebhfaaGreatDoorKGnE
namespace Go.Proofs.YtbfoonfbhebhfaaGreatDoor
open Go.RowKit Plain
open Lib (compareBytes)
theorem bytesLess_cb : ∀ a b : T, Op.bytesLess a b = decide (compareBytes a b < 0)
 | [], [] => by simp [Op.bytesLess, compareBytes]
 | [], _ :: _ => by simp [Op.bytesLess, compareBytes]
 | _ :: _, [] => by simp [Op.bytesLess, compareBytes]
 | x :: a, y :: b => by
  have ih := bytesLess_cb a b
  rw [compareBytes]
  rcases u8_tri x y with h | rfl | h
  ·
   rw [if_pos h]
   simp [Op.bytesLess, h]
  ·
   simp only [u8_irrefl, if_false]
   rw [← ih]
   simp [Op.bytesLess]
  ·
   rw [if_neg (u8_asymm h), if_pos h]
   have hne : x ≠ y := fun e => u8_irrefl y (by rw [e] at h; exact h)
   simp [Op.bytesLess, u8_asymm h, hne]
theorem cb_sign : ∀ a b : T, compareBytes a b = -1 ∨ compareBytes a b = 0 ∨ compareBytes a b = 1
 | [], [] => by simp [compareBytes]
 | [], _ :: _ => by simp [compareBytes]
 | _ :: _, [] => by simp [compareBytes]
 | x :: a, y :: b => by
  have ih := cb_sign a b
  rw [compareBytes]
  split
  ·
   simp
  ·
   split
   ·
    simp
   ·
    exact ih
set_option maxRecDepth 100000 in
theorem isnan_any (s : ByteArray) (w : World) : Calls Tryz.prog 137 #[.string s] w fun e w' => e = .returned (.bool false) ∧ w = w' := by
 have f1 : (s.toList != s.toList) = false := by simp
 go_enter Tryz.func137, Tryz.ntmps137
 go_wp2_with fail
 go_ret
 exact ⟨rfl, rfl⟩
set_option maxRecDepth 100000 in
theorem cmpS_any (a b : ByteArray) (w : World) : Calls Tryz.prog 122 #[.string a, .string b] w fun e w' => e = .returned (.int .i64 (compareBytes (bT a) (bT b))) ∧ w = w' := by
 have h1 : Op.bytesLess a.toList b.toList = decide (compareBytes (bT a) (bT b) < 0) := by rw [Lib.toList_data, Lib.toList_data]; exact bytesLess_cb _ _
 have h2 : Op.bytesLess b.toList a.toList = decide (0 < compareBytes (bT a) (bT b)) := by
  rw [Lib.toList_data, Lib.toList_data]
  refine (bytesLess_cb _ _).trans ?_
  show decide (compareBytes (bT b) (bT a) < 0) = _
  rw [cb_neg (bT a), decide_eq_decide]; omega
 have HN := Lib.hid isnan_any
 have hsg := cb_sign (bT a) (bT b)
 have hz : compareBytes (bT a) (bT b) = 0 ↔ a = b := (cb_zero _ _).trans ⟨fun e => bT_inj e, fun e => by rw [e]⟩
 generalize compareBytes (bT a) (bT b) = c at *
 rcases hsg with rfl | rfl | rfl
 ·
  have g1 : Op.bytesLess a.toList b.toList = true := by rw [h1]; rfl
  clear h1 h2 hz
  go_enter Tryz.func122, Tryz.ntmps122
  go_wp2_with (go_at_call 137; refine (HN.out _ _).mono ?_; rintro e w' ⟨rfl, rfl⟩)
  go_ret
  exact ⟨rfl, rfl⟩
 ·
  have g1 : Op.bytesLess a.toList b.toList = false := by rw [h1]; rfl
  have g2 : Op.bytesLess b.toList a.toList = false := by rw [h2]; rfl
  have g3 : (a.toList == b.toList) = true := same_strB (hz.1 rfl)
  clear h1 h2 g2 hz
  go_enter Tryz.func122, Tryz.ntmps122
  go_wp2_with (go_at_call 137; refine (HN.out _ _).mono ?_; rintro e w' ⟨rfl, rfl⟩)
  go_ret
  exact ⟨rfl, rfl⟩
 ·
  have g1 : Op.bytesLess a.toList b.toList = false := by rw [h1]; rfl
  have g2 : Op.bytesLess b.toList a.toList = true := by rw [h2]; rfl
  have g3 : (a.toList == b.toList) = false := other_strB (fun e => by have := hz.2 e; omega)
  clear h1 h2 g2 hz
  go_enter Tryz.func122, Tryz.ntmps122
  go_wp2_with (go_at_call 137; refine (HN.out _ _).mono ?_; rintro e w' ⟨rfl, rfl⟩)
  go_ret
  exact ⟨rfl, rfl⟩
set_option maxRecDepth 100000 in
theorem compareL_any (a b : Option Addr) (ca cb : Nat) (x y : List ByteArray) (w : World) (hx : SAt 1 sC w a x) (hy : SAt 1 sC w b y) (nx : x.length ≤ 9223372036854775807) (ny : y.length ≤ 9223372036854775807) :
  Calls Tryz.prog 103 #[.slice a x.length ca, .slice b y.length cb] w fun e w' => e = .returned (.int .i64 (cmpL (tl x) (tl y))) ∧ w = w' := by
 have HX := Lib.hid hx
 have HY := Lib.hid hy
 have HC := Lib.hid cmpS_any
 clear hx hy
 go_enter Tryz.func103, Tryz.ntmps103
 go_wp2_with fail
 go_loopw [11] (fun iv wr => ∃ i : Nat, i ≤ x.length ∧ i ≤ y.length ∧ iv = .int .i64 (i : Int) ∧ wr = w ∧ Hid (cmpL (tl (x.drop i)) (tl (y.drop i)) = cmpL (tl x) (tl y))) (fun iv _ => x.length - (intOf iv).toNat)
 case atStart => exact ⟨0, by omega, by omega, rfl, rfl, Lib.hid rfl⟩
 case round =>
  obtain ⟨i, hi, hiy, rfl, rfl, HR⟩ := hrel
  by_cases hlt : i < x.length
  ·
   have m1 : (i : Int) < (x.length : Int) := by omega
   obtain ⟨g, off, rfl, hr⟩ := str_cell HX.out i hlt
   have HD : Hid (cmpL (bT x[i] :: tl (x.drop (i + 1))) (tl (y.drop i)) = cmpL (tl x) (tl y)) := by
    have := HR.out
    rw [List.drop_eq_getElem_cons hlt] at this
    exact this
   clear HR
   generalize x[i] = s at *
   by_cases hly : i < y.length
   ·
    have m2 : ¬ (y.length : Int) ≤ (i : Int) := by omega
    have m3 : (i : Int) < (y.length : Int) := by omega
    obtain ⟨g', off', rfl, hr'⟩ := str_cell HY.out i hly
    have HD2 : Hid (cmpL (bT s :: tl (x.drop (i + 1))) (bT y[i] :: tl (y.drop (i + 1))) = cmpL (tl x) (tl y)) := by
     have := HD.out
     rw [List.drop_eq_getElem_cons hly] at this
     exact this
    clear HD
    generalize y[i] = t at *
    rw [cmpL] at HD2
    go_wp2_with fail
    refine (HC.out s t wr).mono ?_
    rintro e w' ⟨rfl, rfl⟩
    clear hr hr'
    generalize compareBytes (bT s) (bT t) = c at *
    by_cases hc : c = 0
    ·
     have f1 : (c != 0) = false := by simp [hc]
     have HN : Hid (cmpL (tl (x.drop (i + 1))) (tl (y.drop (i + 1))) = cmpL (tl x) (tl y)) := by
      have := HD2.out
      rwa [if_neg (by simp [hc])] at this
     clear HD2 hc
     go_wp2_with fail
     go_roundw
     case rel => exact ⟨i + 1, by omega, by omega, by go_num, trivial, HN⟩
     case measure => simp [intOf]; omega
    ·
     have f1 : (c != 0) = true := by simpa using hc
     have HN : Hid (cmpL (tl x) (tl y) = c) := by
      have := HD2.out
      rw [if_pos hc] at this
      exact this.symm
     clear HD2 hc
     go_wp2_with fail
     go_ret
     exact ⟨by rw [HN.out]; rfl, rfl⟩
   ·
    have m2 : (y.length : Int) ≤ (i : Int) := by omega
    have HN : Hid (cmpL (tl x) (tl y) = 1) := by
     have := HD.out
     rw [List.drop_eq_nil_of_le (by omega : y.length ≤ i)] at this
     exact this.symm
    clear HD
    go_wp2_with fail
    go_ret
    exact ⟨by rw [HN.out]; rfl, rfl⟩
  ·
   have m1 : ¬ (i : Int) < (x.length : Int) := by omega
   have HD : Hid (cmpL [] (tl (y.drop i)) = cmpL (tl x) (tl y)) := by
    have := HR.out
    rw [List.drop_eq_nil_of_le (by omega : x.length ≤ i)] at this
    exact this
   by_cases hly : i < y.length
   ·
    have m3 : (x.length : Int) < (y.length : Int) := by omega
    have HN : Hid (cmpL (tl x) (tl y) = -1) := by
     have := HD.out
     rw [List.drop_eq_getElem_cons hly] at this
     exact this.symm
    clear HD HR
    go_wp2_with fail
    go_ret
    exact ⟨by rw [HN.out]; rfl, rfl⟩
   ·
    have m3 : ¬ (x.length : Int) < (y.length : Int) := by omega
    have HN : Hid (cmpL (tl x) (tl y) = 0) := by
     have := HD.out
     rw [List.drop_eq_nil_of_le (by omega : y.length ≤ i)] at this
     exact this.symm
    clear HD HR
    go_wp2_with fail
    go_ret
    exact ⟨by rw [HN.out]; rfl, rfl⟩
end Go.Proofs.YtbfoonfbhebhfaaGreatDoor
namespace Go.Proofs.YtbfoonfbhebhfaaGreatDoor
open Go.RowKit Plain
abbrev nk (s : ByteArray) : KT := (splP ck (bT s)).1
abbrev nc (s : ByteArray) : Int := (splP ck (bT s)).2
theorem splP_none {p : T} (h : (splP ck p).2 ≠ 0) : (splP ck p).1 = [] := by
 unfold splP at *
 split at h
 ·
  split at h
  ·
   exact absurd rfl h
  ·
   split at h
   ·
    exact absurd rfl h
   ·
    rename_i h1 h2; simp [h1, h2]
 ·
  rfl
def SplU (w0 : World) (s : ByteArray) (e : Ending) (w : World) : Prop := ∃ (a : Option Addr) (c : Nat) (L : List ByteArray), e = .returned (.tuple #[.slice a L.length c, .int .i64 (nc s)]) ∧ Below w0.heap.size w0 w ∧ SAt 1 sC w a L ∧ tl L = nk s ∧ L.length ≤ 8
theorem split_u (s : ByteArray) (m : Int) (w : World) (hs : s.size < 4294967281) (hm : MaxL m w) (hT : Tabs w) : Calls Tryz.prog 21 #[.string s] w (SplU w s) := by
 refine (split_any s m w hs hm hT).mono ?_
 rintro e w' ⟨hb, ⟨h0, a, c, L, rfl, h1, h2, _, h3, _⟩ | ⟨h0, rfl⟩⟩
 ·
  exact ⟨a, c, L, by rw [show nc s = 0 from h0], hb, h1, h2, h3⟩
 ·
  exact ⟨none, 0, [], rfl, hb, SAt.nil, (splP_none h0).symm, by simp⟩
set_option maxRecDepth 100000 in
theorem ncompare_any (a b : ByteArray) (m : Int) (w : World) (ha : a.size < 4294967281) (hb : b.size < 4294967281) (hm : MaxL m w) (hT : Tabs w) :
  Calls Tryz.prog 84 #[.string a, .string b] w fun e w' => e = .returned (.int .i64 (cmpL (nk a) (nk b))) ∧ Below w.heap.size w w' := by
 have HSP := Lib.hid split_u
 have HC := Lib.hid compareL_any
 have HM := Lib.hid hm
 have HT := Lib.hid hT
 clear hm hT
 go_enter Tryz.func84, Tryz.ntmps84
 go_wp2_with fail
 refine (HSP.out a m w ha HM.out HT.out).mono ?_
 rintro e w1 ⟨a1, c1, L1, rfl, hb1, hs1, htl1, h81⟩
 have HB1 := Lib.hid hb1
 have HS1 := Lib.hid hs1
 have HT1 := Lib.hid htl1
 generalize nc a = q1 at *
 clear hb1 hs1 htl1
 go_wp2_with fail
 refine (HSP.out b m w1 hb (HM.out.below HB1.out) (HT.out.below HB1.out)).mono ?_
 rintro e w2 ⟨a2, c2, L2, rfl, hb2, hs2, htl2, h82⟩
 have HB2 := Lib.hid (Below.step HB1.out hb2)
 have HS2 := Lib.hid (HS1.out.below hb2)
 have HS3 := Lib.hid hs2
 have HT2 := Lib.hid htl2
 generalize nc b = q2 at *
 clear hb2 hs2 htl2
 go_wp2_with fail
 refine (HC.out a1 a2 c1 c2 L1 L2 w2 HS2.out HS3.out (by omega) (by omega)).mono ?_
 rintro e w3 ⟨rfl, rfl⟩
 have HCC : Hid (cmpL (tl L1) (tl L2) = cmpL (nk a) (nk b)) := by show _ = _; rw [HT1.out, HT2.out]
 generalize cmpL (tl L1) (tl L2) = c at *
 go_wp2_with fail
 go_ret
 exact ⟨by rw [HCC.out]; rfl, HB2.out⟩
def lastIx (s : ByteArray) : Nat → Int
 | 0 => -1
 | n + 1 => if (s.data.toList.getD n 0).toNat = 47 then (n : Int) else lastIx s n
theorem lastIx_le (s : ByteArray) : ∀ n, lastIx s n < n
 | 0 => by simp [lastIx]
 | n + 1 => by
  have := lastIx_le s n
  unfold lastIx
  split
  ·
   omega
  ·
   omega
theorem lastIx_nonneg {s : ByteArray} {rest : T} (h : bT s = 47 :: rest) : ∀ n, 1 ≤ n → 0 ≤ lastIx s n
 | 0, h1 => by omega
 | n + 1, _ => by
  unfold lastIx
  split
  ·
   omega
  ·
   rename_i hne
   cases n with
   | zero =>
    exfalso
    apply hne
    have e : s.data.toList = 47 :: rest := h
    rw [e]; rfl
   | succ n => exact lastIx_nonneg h (n + 1) (by omega)
def parent (s : ByteArray) : ByteArray := s.extract 0 (lastIx s s.size).toNat
set_option maxRecDepth 100000 in
theorem lastIdx_any (s : ByteArray) (w : World) (hs : s.size ≤ 4294967296) : Calls Tryz.prog 104 #[.string s, .int .u8 47] w fun e w' => e = .returned (.int .i64 (lastIx s s.size)) ∧ w = w' := by
 go_enter Tryz.func104, Tryz.ntmps104
 go_wp2_with fail
 go_loopw [5] (fun iv wr => ∃ n : Nat, n ≤ s.size ∧ iv = .int .i64 ((n : Int) - 1) ∧ wr = w ∧ Hid (lastIx s s.size = lastIx s n)) (fun iv _ => (intOf iv + 1).toNat)
 case atStart => exact ⟨s.size, by omega, by go_num, rfl, Lib.hid rfl⟩
 case round =>
  obtain ⟨n, hn, rfl, rfl, HR⟩ := hrel
  cases n with
  | zero =>
   go_wp2_with fail
   go_ret
   exact ⟨by rw [HR.out]; rfl, rfl⟩
  | succ n =>
   have m1 : (0 : Int) ≤ ((n + 1 : Nat) : Int) - 1 := by omega
   have e1 : (((n + 1 : Nat) : Int) - 1) = (n : Int) := by omega
   rw [e1] at m1 ⊢
   have m2 : (n : Int) < (s.size : Int) := by omega
   have hgb := get_bang s n (by omega)
   have hnl : n < s.size := by omega
   have hgn : (s[n]'hnl) = s.data.toList.getD n 0 := by
    rw [← hgb]
    simp [ByteArray.get!, hnl]
    rfl
   by_cases hc : (s.data.toList.getD n 0).toNat = 47
   ·
    have HE : Hid (lastIx s s.size = (n : Int)) := by show _ = _; rw [HR.out, lastIx, if_pos hc]
    have f1 : ((((s[n]'hnl).toNat : Nat) : Int) == 47) = true := by rw [hgn, hc]; rfl
    clear hgn hgb hc
    go_wp2_with fail
    go_ret
    exact ⟨by rw [HE.out]; rfl, rfl⟩
   ·
    have HE : Hid (lastIx s s.size = lastIx s n) := by show _ = _; rw [HR.out, lastIx, if_neg hc]
    have f1 : ((((s[n]'hnl).toNat : Nat) : Int) == 47) = false := by rw [hgn]; simp only [beq_eq_false_iff_ne, ne_eq]; omega
    clear hgn hgb hc
    go_wp2_with fail
    go_roundw
    case rel => exact ⟨n, by omega, by go_num, by first | rfl | trivial, HE⟩
    case measure => first | (simp [intOf]; done) | (simp [intOf]; omega)
set_option maxRecDepth 100000 in
theorem lastSl_any (s : ByteArray) (w : World) (hs : s.size ≤ 4294967296) : Calls Tryz.prog 85 #[.string s, .int .u8 47] w fun e w' => e = .returned (.int .i64 (lastIx s s.size)) ∧ w = w' := by
 have H := Lib.hid (lastIdx_any s w hs)
 generalize lastIx s s.size = q at *
 go_enter Tryz.func85, Tryz.ntmps85
 go_wp2_with fail
 refine H.out.mono ?_
 rintro e w1 ⟨rfl, rfl⟩
 go_wp2_with fail
 go_ret
 exact ⟨rfl, rfl⟩
set_option maxRecDepth 100000 in
theorem parent_any (s : ByteArray) (w : World) (hs : s.size ≤ 4294967296) (h0 : nc s = 0) : Calls Tryz.prog 53 #[.string s] w fun e w' => e = .returned (.string (parent s)) ∧ w = w' := by
 have H := Lib.hid (lastSl_any s w hs)
 obtain ⟨rest, hr, _⟩ := splP_ok h0
 have hsz : 1 ≤ s.size := by rw [← bT_length, hr]; simp
 have h1 := lastIx_nonneg hr s.size hsz
 have h2 := lastIx_le s s.size
 obtain ⟨k, hk⟩ : ∃ k : Nat, lastIx s s.size = (k : Int) := ⟨(lastIx s s.size).toNat, by omega⟩
 have HP : Hid (parent s = s.extract 0 k) := by show _ = _; unfold parent; rw [hk]; rfl
 rw [hk] at H h2
 have k1 : (0 : Int) ≤ (k : Int) := by omega
 have k2 : (k : Int) ≤ (s.size : Int) := by omega
 clear hr h1 hk hsz h2
 go_enter Tryz.func53, Tryz.ntmps53
 go_wp2_with fail
 refine H.out.mono ?_
 rintro e w1 ⟨rfl, rfl⟩
 go_wp2_with fail
 go_ret
 exact ⟨by rw [HP.out]; rfl, rfl⟩
def KnEnd (w0 : World) (k : Int) (e : Ending) (w : World) : Prop := ∃ b : Bool, e = .returned (.bool b) ∧ (b = true ↔ 1 ≤ k ∧ k ≤ 3) ∧ w0 = w
set_option maxRecDepth 100000 in
theorem tkn_any (k : Int) (w : World) : Calls Tryz.prog 102 #[.int .i64 k] w (KnEnd w k) := by
 by_cases h1 : 1 ≤ k
 ·
  by_cases h2 : k ≤ 3
  ·
   go_enter Tryz.func102, Tryz.ntmps102
   go_wp2_with fail
   go_ret
   exact ⟨true, rfl, ⟨fun _ => ⟨h1, h2⟩, fun _ => rfl⟩, rfl⟩
  ·
   go_enter Tryz.func102, Tryz.ntmps102
   go_wp2_with fail
   go_ret
   exact ⟨false, rfl, ⟨fun h => (by cases h), fun h => (by omega)⟩, rfl⟩
 ·
  go_enter Tryz.func102, Tryz.ntmps102
  go_wp2_with fail
  go_ret
  exact ⟨false, rfl, ⟨fun h => (by cases h), fun h => (by omega)⟩, rfl⟩
def icode (x : It) : Int :=
 if nc x.1 ≠ 0 then nc x.1
 else if (nk x.1).length = 0 then 8
 else if ¬ (1 ≤ x.2.1 ∧ x.2.1 ≤ 3) then 5
 else if x.2.2.1 < 0 ∨ 511 < x.2.2.1 then 1
 else if (x.2.1 = 1 ∧ 4096 < x.2.2.2.2.size) ∨ (x.2.1 = 2 ∧ x.2.2.2.2.size ≠ 0) ∨ (x.2.1 = 3 ∧ 1024 < x.2.2.2.2.size) then 2
 else if x.2.1 = 3 ∧ x.2.2.2.2.size = 0 then 4 else 0
theorem icode_zero {x : It} (h : icode x = 0) : nc x.1 = 0 := by
 apply Classical.byContradiction
 intro hne
 unfold icode at h
 rw [if_pos hne] at h
 exact hne h
set_option maxRecDepth 100000 in
set_option maxHeartbeats 2000000 in
theorem item_any (x : It) (m : Int) (w : World) (hs : x.1.size ≤ 4294967280) (hm : MaxL m w) (hT : Tabs w) : Calls Tryz.prog 83 #[.agg (iC x).toArray] w fun e w' => e = .returned (.int .i64 (icode x)) ∧ Below w.heap.size w w' := by
 have HI : Hid (icode x = icode x) := rfl
 have HB0 := Lib.hid ((Below.refl w.heap.size w).alloc (Nat.le_refl _) (.cells (iC x).toArray 40))
 have HC0 : Hid ((w.alloc (.cells (iC x).toArray 40)).heap[w.heap.size]? = some (.cells (iC x).toArray 40 (0, 0))) := heap_alloc_new w _
 have HSP := Lib.hid (split_u x.1 m)
 have HM := Lib.hid (hm.below HB0.out)
 have HT := Lib.hid (hT.below HB0.out)
 have HKN := Lib.hid tkn_any
 have HLN : Hid ((nk x.1).length = (nk x.1).length) := rfl
 obtain ⟨p, k, md, tm, by_⟩ := x
 have HE : Hid (∀ c : Int, icode (p, k, md, tm, by_) = c → icode (p, k, md, tm, by_) = c) := fun _ h => h
 clear HI HLN hm hT
 unfold iC at *
 dsimp only at *
 go_enter Tryz.func83, Tryz.ntmps83
 have y0 := cell_of_row _ _ 0 _ _ _ HC0.out
 simp only [List.getElem?_toArray, List.getElem?_cons_zero] at y0
 go_wp2_with fail
 refine (HSP.out _ (by omega) HM.out HT.out).mono ?_
 rintro e w1 ⟨a1, c1, L1, rfl, hb1, hs1, htl1, h81⟩
 have HB1 := Lib.hid (Below.step HB0.out hb1)
 have HC1 := (hb1.block _ (lt_of_block HC0.out)).trans HC0.out
 have hln : (nk p).length = L1.length := by rw [← htl1, tl_length]
 clear y0 hb1 hs1 htl1 HB0 HC0 HM HT HSP
 have y1 := cell_of_row _ _ 1 _ _ _ HC1
 have y2 := cell_of_row _ _ 2 _ _ _ HC1
 have y4 := cell_of_row _ _ 4 _ _ _ HC1
 simp only [List.getElem?_toArray, List.getElem?_cons_succ, List.getElem?_cons_zero] at y1 y2 y4
 clear HC1
 by_cases g0 : nc p = 0
 ·
  have f0 : (nc p != 0) = false := by simp [g0]
  by_cases g1 : L1.length = 0
  ·
   have f1 : ((L1.length : Int) == 0) = true := by simp [g1]
   have HR : Hid (icode (p, k, md, tm, by_) = 8) := by show _ = _; unfold icode; dsimp only; rw [if_neg (fun h => h g0), if_pos (hln.trans g1)]
   generalize nc p = q at *
   clear g0 g1 hln HE
   go_wp2_with fail
   go_ret
   exact ⟨(congrArg (fun c => Ending.returned (Value.int .i64 c)) HR.out).symm, HB1.out⟩
  ·
   have f1 : ((L1.length : Int) == 0) = false := beq_eq_false_iff_ne.2 (by omega)
   have HR : Hid (icode (p, k, md, tm, by_) = if ¬ (1 ≤ k ∧ k ≤ 3) then 5 else if md < 0 ∨ 511 < md then 1 else if (k = 1 ∧ 4096 < by_.size) ∨ (k = 2 ∧ by_.size ≠ 0) ∨ (k = 3 ∧ 1024 < by_.size) then 2 else if k = 3 ∧ by_.size = 0 then 4 else 0) := by
    show _ = _; unfold icode; dsimp only; rw [if_neg (fun h => h g0), if_neg (fun h => g1 (hln.symm.trans h))]
   generalize nc p = q at *
   clear g0 g1 hln HE
   go_wp2_with fail
   refine (HKN.out k w1).mono ?_
   rintro e w2 ⟨b, rfl, hb, rfl⟩
   by_cases gk : 1 ≤ k ∧ k ≤ 3
   ·
    obtain rfl := hb.2 gk
    clear hb
    rw [if_neg (fun h => h gk)] at HR
    by_cases gm : md < 0 ∨ 511 < md
    ·
     rw [if_pos gm] at HR
     rcases gm with gm | gm
     ·
      go_wp2_with fail
      go_ret
      exact ⟨(congrArg (fun c => Ending.returned (Value.int .i64 c)) HR.out).symm, HB1.out⟩
     ·
      have gm2 : ¬ md < 0 := by omega
      go_wp2_with fail
      go_ret
      exact ⟨(congrArg (fun c => Ending.returned (Value.int .i64 c)) HR.out).symm, HB1.out⟩
    ·
     rw [if_neg gm] at HR
     have gm1 : ¬ md < 0 := by omega
     have gm2 : ¬ 511 < md := by omega
     have hk : k = 1 ∨ k = 2 ∨ k = 3 := by omega
     clear gm gk
     rcases hk with rfl | rfl | rfl
     ·
      by_cases gs : 4096 < by_.size
      ·
       have gs1 : (4096 : Int) < (by_.size : Int) := by omega
       rw [if_pos (.inl ⟨rfl, gs⟩)] at HR
       go_wp2_with fail
       go_ret
       exact ⟨(congrArg (fun c => Ending.returned (Value.int .i64 c)) HR.out).symm, HB1.out⟩
      ·
       have gs1 : ¬ (4096 : Int) < (by_.size : Int) := by omega
       rw [if_neg (by rintro (⟨_, h⟩ | ⟨h, _⟩ | ⟨h, _⟩) <;> omega), if_neg (by rintro ⟨h, _⟩; omega)] at HR
       go_wp2_with fail
       go_ret
       exact ⟨(congrArg (fun c => Ending.returned (Value.int .i64 c)) HR.out).symm, HB1.out⟩
     ·
      by_cases gs : by_.size = 0
      ·
       have gs1 := empty_strB gs
       rw [if_neg (by rintro (⟨h, _⟩ | ⟨_, h⟩ | ⟨h, _⟩) <;> omega), if_neg (by rintro ⟨h, _⟩; omega)] at HR
       go_wp2_with fail
       go_ret
       exact ⟨(congrArg (fun c => Ending.returned (Value.int .i64 c)) HR.out).symm, HB1.out⟩
      ·
       have gs1 := full_strB gs
       rw [if_pos (.inr (.inl ⟨rfl, gs⟩))] at HR
       go_wp2_with fail
       go_ret
       exact ⟨(congrArg (fun c => Ending.returned (Value.int .i64 c)) HR.out).symm, HB1.out⟩
     ·
      by_cases gs : 1024 < by_.size
      ·
       have gs1 : (1024 : Int) < (by_.size : Int) := by omega
       rw [if_pos (.inr (.inr ⟨rfl, gs⟩))] at HR
       go_wp2_with fail
       go_ret
       exact ⟨(congrArg (fun c => Ending.returned (Value.int .i64 c)) HR.out).symm, HB1.out⟩
      ·
       have gs1 : ¬ (1024 : Int) < (by_.size : Int) := by omega
       rw [if_neg (by rintro (⟨h, _⟩ | ⟨h, _⟩ | ⟨_, h⟩) <;> omega)] at HR
       by_cases ge : by_.size = 0
       ·
        have gs2 := empty_strB ge
        rw [if_pos ⟨rfl, ge⟩] at HR
        go_wp2_with fail
        go_ret
        exact ⟨(congrArg (fun c => Ending.returned (Value.int .i64 c)) HR.out).symm, HB1.out⟩
       ·
        have gs2 := full_strB ge
        rw [if_neg (fun h => ge h.2)] at HR
        go_wp2_with fail
        go_ret
        exact ⟨(congrArg (fun c => Ending.returned (Value.int .i64 c)) HR.out).symm, HB1.out⟩
   ·
    obtain rfl : b = false := by cases b with
     | false => rfl
     | true => exact absurd (hb.1 rfl) gk
    clear hb
    rw [if_pos gk] at HR
    go_wp2_with fail
    go_ret
    exact ⟨(congrArg (fun c => Ending.returned (Value.int .i64 c)) HR.out).symm, HB1.out⟩
 ·
  have f0 : (nc p != 0) = true := by simpa using g0
  have HR : Hid (icode (p, k, md, tm, by_) = nc p) := by show _ = _; unfold icode; dsimp only; rw [if_pos g0]
  clear g0 hln HE
  generalize nc p = q at *
  go_wp2_with fail
  go_ret
  exact ⟨(congrArg (fun c => Ending.returned (Value.int .i64 c)) HR.out).symm, HB1.out⟩
end Go.Proofs.YtbfoonfbhebhfaaGreatDoor
