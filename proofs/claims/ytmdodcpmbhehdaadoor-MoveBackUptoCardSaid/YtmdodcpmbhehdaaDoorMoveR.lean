/- The walks of move's reader: take, number, integer, text, kind. -/
import Derived.Test.YtmdodcpmbhehdaaDoorMovePlain
import Derived.Test.YtmdodcpmbhehdaaDoorTreeR
import Derived.Test.YtmdodcpmbhehdaaDoorNumOut
namespace Go.Proofs.YtmdodcpmbhehdaaDoor
open Go.RowKit Plain
set_option linter.unusedVariables false
set_option linter.unusedSimpArgs false
def RSM (w : World) (R : Nat) (l : ByteArray) (b : Bool) : Prop := w.heap[R]? = some (.cells #[.string l, .bool b] 90 (0, 0))
theorem RSM.c0 {w : World} {R : Nat} {l : ByteArray} {b : Bool} (h : RSM w R l b) : w.cell? ⟨R, 0, none⟩ = some (.string l) := by
  have := cell_of_row _ _ 0 _ _ _ h
  simpa using this
theorem RSM.c1 {w : World} {R : Nat} {l : ByteArray} {b : Bool} (h : RSM w R l b) : w.cell? ⟨R, 1, none⟩ = some (.bool b) := by
  have := cell_of_row _ _ 1 _ _ _ h
  simpa using this
theorem RSM.fz {w : World} {R : Nat} {l : ByteArray} {b : Bool} (h : RSM w R l b) (i : Nat) : w.frozen? ⟨R, i, none⟩ = false := frozen_of_row _ _ _ _ _ h
theorem RSM.below {w w' : World} {R : Nat} {l : ByteArray} {b : Bool} (h : RSM w R l b) (hb : Below w.heap.size w w') : RSM w' R l b := (hb.block _ (lt_of_block h)).trans h
theorem RSM.set0 {w : World} {R : Nat} {l : ByteArray} {b : Bool} (h : RSM w R l b) (l' : ByteArray) : RSM (w.setCell ⟨R, 0, none⟩ (.string l')) R l' b := rst_set h 0 _
theorem RSM.set1 {w : World} {R : Nat} {l : ByteArray} {b : Bool} (h : RSM w R l b) (b' : Bool) : RSM (w.setCell ⟨R, 1, none⟩ (.bool b')) R l b' := rst_set h 1 _
/-- what take hands back -/
def TkEnd (R : Nat) (l : ByteArray) (b : Bool) (n e : Nat) (w0 : World) (en : Ending) (w : World) : Prop :=
  BX R w0 w ∧ ((b = false ∧ e = 0 ∧ n ≤ l.size ∧ en = .returned (.string (l.extract 0 n)) ∧ RSM w R (l.extract n l.size) false) ∨ ((b = true ∨ e ≠ 0 ∨ l.size < n) ∧ en = .returned (.string ⟨#[]⟩) ∧ RSM w R l true))
set_option maxRecDepth 100000 in
set_option maxHeartbeats 1000000 in
theorem mtake_any (R : Nat) (l : ByteArray) (b : Bool) (n e : Nat) (w : World) (hl : l.size ≤ 9223372036854775806) (h : RSM w R l b) : Calls Tryd.prog 68 #[.pointer (some ⟨R, 0, none⟩), .int .i64 (n : Int), .int .i64 (e : Int)] w (TkEnd R l b n e w) := by
  have h0 := h.c0
  have h1 := h.c1
  have z0 := h.fz 0
  have z1 := h.fz 1
  have HR := Lib.hid h
  clear h
  cases b with
  | true =>
    go_enter Tryd.func68, Tryd.ntmps68
    go_wp2_with fail
    go_ret
    exact ⟨(BX.refl _ _).set 1 _, .inr ⟨.inl rfl, rfl, HR.out.set1 true⟩⟩
  | false =>
    by_cases he : e = 0
    · subst he
      by_cases hn : n ≤ l.size
      · have f1 : decide ((n : Int) > (l.size : Int)) = false := decide_eq_false (by omega)
        have f2 : ¬ (l.size : Int) < (n : Int) := by omega
        have k0 : (0 : Int) ≤ (n : Int) := Int.natCast_nonneg _
        have k1 : (n : Int) ≤ (l.size : Int) := by omega
        have HN := Lib.hid hn
        obtain ⟨D, hD⟩ : ∃ D, l.extract n l.size = D := ⟨_, rfl⟩
        obtain ⟨E, hE⟩ : ∃ E, l.extract 0 n = E := ⟨_, rfl⟩
        have HDD := Lib.hid hD
        have HEE := Lib.hid hE
        clear hn
        go_enter Tryd.func68, Tryd.ntmps68
        go_wp2_with fail
        go_ret
        exact ⟨(BX.refl _ _).set 0 _, .inl ⟨rfl, rfl, HN.out, by rw [HEE.out]; rfl, by rw [HDD.out]; exact HR.out.set0 D⟩⟩
      · have f1 : decide ((n : Int) > (l.size : Int)) = true := decide_eq_true (by omega)
        have f2 : (l.size : Int) < (n : Int) := by omega
        have HN : Hid (l.size < n) := Lib.hid (by omega)
        clear hn
        go_enter Tryd.func68, Tryd.ntmps68
        go_wp2_with fail
        go_ret
        exact ⟨(BX.refl _ _).set 1 _, .inr ⟨.inr (.inr HN.out), rfl, HR.out.set1 true⟩⟩
    · have f1 : ((e : Int) == 0) = false := by simp; omega
      have f2 : ((e : Int) != 0) = true := by simp; omega
      have HE := Lib.hid he
      clear he
      go_enter Tryd.func68, Tryd.ntmps68
      go_wp2_with fail
      go_ret
      exact ⟨(BX.refl _ _).set 1 _, .inr ⟨.inr (.inl HE.out), rfl, HR.out.set1 true⟩⟩
/-- a part read, or a fault; what is handed back has Q in both cases -/
def PEM {α : Type} (p : List Nat → Option (α × List Nat)) (V : α → Value) (Q : α → Prop) (R : Nat) (l : ByteArray) (b : Bool) (w0 : World) (en : Ending) (w : World) : Prop :=
  ∃ (a : α) (l' : ByteArray) (b' : Bool), en = .returned (V a) ∧ RSM w R l' b' ∧ BX R w0 w ∧ l'.size ≤ l.size ∧ PrtM p (strN l) b a (strN l') b' ∧ Q a
set_option maxRecDepth 100000 in
set_option maxHeartbeats 1000000 in
theorem mnumber_any (R : Nat) (l : ByteArray) (b : Bool) (most : Nat) (w : World) (hl : l.size ≤ 9223372036854775806) (hm : most < 4611686018427387904) (h : RSM w R l b) : Calls Tryd.prog 65 #[.pointer (some ⟨R, 0, none⟩), .int .u64 (most : Int)] w (PEM (pNum most) (fun n : Nat => .int .i64 (n : Int)) (fun n => n ≤ most) R l b w) := by
  obtain ⟨n, k, c, hg⟩ : ∃ n k c, getN (strN l) = (n, k, c) := ⟨_, _, _, rfl⟩
  have hkb := getN_bound (strN l)
  rw [hg, strN_length] at hkb
  have hk1 : k ≤ l.size := hkb.1
  have HG : Hid (∀ u, Calls Tryd.prog 50 #[.string l] u fun e w' => e = .returned (.tuple #[.int .u64 (n : Int), .int .i64 (k : Int), .int .i64 (c : Int)]) ∧ u = w') := fun u => by
    have h := get_any l u (by omega)
    unfold GetEnd at h
    rw [hg] at h
    exact h
  have HGN := Lib.hid hg
  have HK := Lib.hid hk1
  have h0 := h.c0
  have HT := Lib.hid (mtake_any R l b k c w hl h)
  clear h hg hkb hk1
  go_enter Tryd.func65, Tryd.ntmps65
  go_wp2_with fail
  refine (HG.out _).mono ?_
  rintro e w1 ⟨rfl, rfl⟩
  go_wp2_with fail
  refine HT.out.mono ?_
  rintro e w2 ⟨hb, hc⟩
  have HB := Lib.hid hb
  clear hb
  rcases hc with ⟨rfl, rfl, hk, rfl, hr⟩ | ⟨hor, rfl, hr⟩
  · have x1 := hr.c1
    have z1 := hr.fz 1
    have HR := Lib.hid hr
    have hDN : strN (l.extract k l.size) = (strN l).drop k := extract_strN l k
    have HDZ : Hid ((l.extract k l.size).size ≤ l.size) := Lib.hid (by rw [← strN_length, hDN, List.length_drop, strN_length]; omega)
    by_cases hn : n ≤ most
    · have f1 : decide ((n : Int) > (most : Int)) = false := decide_eq_false (by omega)
      have f2 : ¬ (most : Int) < (n : Int) := by omega
      have e1 : IntKind.i64.wrap (n : Int) = (n : Int) := wraps_i64 _ (by omega) (by omega)
      have HP : Hid (PrtM (pNum most) (strN l) false n (strN (l.extract k l.size)) false) := Lib.hid (.inl ⟨rfl, by unfold pNum; rw [HGN.out, if_pos ⟨rfl, hn⟩, hDN], rfl⟩)
      have HN := Lib.hid hn
      clear hr hn hDN
      go_wp2_with fail
      go_ret
      exact ⟨n, _, false, rfl, HR.out, HB.out, HDZ.out, HP.out, HN.out⟩
    · have f1 : decide ((n : Int) > (most : Int)) = true := decide_eq_true (by omega)
      have f2 : (most : Int) < (n : Int) := by omega
      have HP : Hid (PrtM (pNum most) (strN l) false 0 (strN (l.extract k l.size)) true) := Lib.hid (.inr ⟨.inr (by unfold pNum; rw [HGN.out, if_neg (by rintro ⟨_, h⟩; exact hn h)]), rfl⟩)
      clear hr hn hDN
      go_wp2_with fail
      go_ret
      exact ⟨0, _, true, rfl, HR.out.set1 true, HB.out.set 1 _, HDZ.out, HP.out, Nat.zero_le _⟩
  · have x1 := hr.c1
    have z1 := hr.fz 1
    have HR := Lib.hid hr
    have HP : Hid (PrtM (pNum most) (strN l) b 0 (strN l) true) := Lib.hid (by
      refine .inr ⟨?_, rfl⟩
      rcases hor with h | h | h
      · exact .inl h
      · exact .inr (by unfold pNum; rw [HGN.out, if_neg (by rintro ⟨h2, _⟩; exact h h2)])
      · exact absurd HK.out (by omega))
    clear hr hor
    go_wp2_with fail
    go_ret
    exact ⟨0, l, true, rfl, HR.out.set1 true, HB.out.set 1 _, Nat.le_refl _, HP.out, Nat.zero_le _⟩
theorem getI_bad (s : List Nat) : (getI s).2.2 = 0 ∨ ((getI s).1 = 0 ∧ (getI s).2.1 = 0) := by
  cases s with
  | nil => exact .inr ⟨rfl, rfl⟩
  | cons c x =>
    rw [getI]
    generalize (if c < 128 then 127 - c else c - 128) = k
    generalize (if c < 128 then flp (x.take k) else x.take k) = d
    by_cases h1 : 8 < k
    · rw [if_pos h1]; exact .inr ⟨rfl, rfl⟩
    · rw [if_neg h1]
      by_cases h2 : x.length < k
      · rw [if_pos h2]; exact .inr ⟨rfl, rfl⟩
      · rw [if_neg h2]
        by_cases h3 : (0 < k ∧ d.getD 0 0 = 0) ∨ 9223372036854775807 < vl d
        · rw [if_pos h3]; exact .inr ⟨rfl, rfl⟩
        · rw [if_neg h3]; exact .inl rfl
theorem getI_rng (s : List Nat) (hs : ∀ c ∈ s, c < 256) : (getI s).2.1 ≤ s.length ∧ -9223372036854775808 ≤ (getI s).1 ∧ (getI s).1 ≤ 9223372036854775807 := by
  rcases getI_bad s with h | ⟨h1, h2⟩
  · have := getI_back hs (n := (getI s).1) (k := (getI s).2.1) (by rw [← h])
    exact ⟨this.1, this.2.2⟩
  · rw [h1, h2]
    exact ⟨Nat.zero_le _, by omega, by omega⟩
set_option maxRecDepth 100000 in
set_option maxHeartbeats 1000000 in
theorem minteger_any (R : Nat) (l : ByteArray) (b : Bool) (w : World) (hl : l.size ≤ 9223372036854775806) (h : RSM w R l b) : Calls Tryd.prog 67 #[.pointer (some ⟨R, 0, none⟩)] w (PEM pInt (fun n : Int => .int .i64 n) (fun n => -9223372036854775808 ≤ n ∧ n ≤ 9223372036854775807) R l b w) := by
  obtain ⟨n, k, c, hg⟩ : ∃ n k c, getI (strN l) = (n, k, c) := ⟨_, _, _, rfl⟩
  have hkb := getI_rng (strN l) (strN_lt l)
  rw [hg, strN_length] at hkb
  have HG : Hid (∀ u, Calls Tryd.prog 79 #[.string l] u fun e w' => e = .returned (.tuple #[.int .i64 n, .int .i64 (k : Int), .int .i64 (c : Int)]) ∧ Below u.heap.size u w') := fun u => by
    have h := getInt_any l u hl
    unfold GetIEnd at h
    rw [hg] at h
    exact h
  have HGN := Lib.hid hg
  have HK := Lib.hid hkb
  have h0 := h.c0
  have HR := Lib.hid h
  have HT := Lib.hid fun u (hu : RSM u R l b) => mtake_any R l b k c u hl hu
  clear h hg hkb
  go_enter Tryd.func67, Tryd.ntmps67
  go_wp2_with fail
  refine (HG.out _).mono ?_
  rintro e w1 ⟨rfl, hb1⟩
  have HT1 := Lib.hid (HT.out _ (HR.out.below hb1))
  have HB1 := Lib.hid (BX.of_below (R := R) hb1)
  clear hb1
  go_wp2_with fail
  refine HT1.out.mono ?_
  rintro e w2 ⟨hb, hc⟩
  have HB := Lib.hid (HB1.out.trans hb)
  have HKN : Hid (-9223372036854775808 ≤ n ∧ n ≤ 9223372036854775807) := Lib.hid HK.out.2
  clear hb HT1 HT
  rcases hc with ⟨rfl, rfl, hk, rfl, hr⟩ | ⟨hor, rfl, hr⟩
  · have HR2 := Lib.hid hr
    have hDN : strN (l.extract k l.size) = (strN l).drop k := extract_strN l k
    have HDZ : Hid ((l.extract k l.size).size ≤ l.size) := Lib.hid (by rw [← strN_length, hDN, List.length_drop, strN_length]; omega)
    have HP : Hid (PrtM pInt (strN l) false n (strN (l.extract k l.size)) false) := Lib.hid (.inl ⟨rfl, by unfold pInt; rw [HGN.out, if_pos rfl, hDN], rfl⟩)
    clear hr hDN
    go_wp2_with fail
    go_ret
    exact ⟨n, _, false, rfl, HR2.out, HB.out, HDZ.out, HP.out, HKN.out⟩
  · have HR2 := Lib.hid hr
    have HP : Hid (PrtM pInt (strN l) b n (strN l) true) := Lib.hid (by
      refine .inr ⟨?_, rfl⟩
      rcases hor with h | h | h
      · exact .inl h
      · exact .inr (by unfold pInt; rw [HGN.out, if_neg h])
      · exact absurd HK.out.1 (by omega))
    clear hr hor
    go_wp2_with fail
    go_ret
    exact ⟨n, l, true, rfl, HR2.out, HB.out, Nat.le_refl _, HP.out, HKN.out⟩
set_option maxRecDepth 100000 in
set_option maxHeartbeats 1000000 in
theorem mtext_any (R : Nat) (l : ByteArray) (b : Bool) (w : World) (hl : l.size ≤ 9223372036854775806) (h : RSM w R l b) : Calls Tryd.prog 64 #[.pointer (some ⟨R, 0, none⟩)] w (PEM getT (fun x : List Nat => .string (strOf x)) (fun x => x.length ≤ 1024 ∧ ∀ c ∈ x, c < 256) R l b w) := by
  have HG := Lib.hid fun u => getText_any l u hl
  have h0 := h.c0
  have HR := Lib.hid h
  have HT := Lib.hid fun k c u (hu : RSM u R l b) => mtake_any R l b k c u hl hu
  clear h
  go_enter Tryd.func64, Tryd.ntmps64
  go_wp2_with fail
  refine (HG.out _).mono ?_
  rintro e1 w1 ⟨t, k, c, hgt, htl, rfl, hb1⟩
  have HT1 := Lib.hid (HT.out k c _ (HR.out.below hb1))
  have HB1 := Lib.hid (BX.of_below (R := R) hb1)
  have HGT := Lib.hid hgt
  have hq : t.length ≤ 1024 ∧ k ≤ l.size := by
    by_cases hc : c = 0
    · subst hc
      have := hgt.ok
      rw [strN_length] at this
      exact ⟨this.2.2, this.1⟩
    · rcases hgt with ⟨h, _⟩ | ⟨h1, h2, _⟩
      · exact absurd h hc
      · rw [h1, h2]; exact ⟨by simp, Nat.zero_le _⟩
  have HQ : Hid (t.length ≤ 1024 ∧ ∀ c ∈ t, c < 256) := Lib.hid ⟨hq.1, htl⟩
  have HK := Lib.hid hq.2
  clear hb1 hgt htl hq HT
  go_wp2_with fail
  refine HT1.out.mono ?_
  rintro e w2 ⟨hb, hc⟩
  have HB := Lib.hid (HB1.out.trans hb)
  clear hb HT1
  rcases hc with ⟨rfl, rfl, hk, rfl, hr⟩ | ⟨hor, rfl, hr⟩
  · have HR2 := Lib.hid hr
    have hDN : strN (l.extract k l.size) = (strN l).drop k := extract_strN l k
    have HDZ : Hid ((l.extract k l.size).size ≤ l.size) := Lib.hid (by rw [← strN_length, hDN, List.length_drop, strN_length]; omega)
    have HP : Hid (PrtM getT (strN l) false t (strN (l.extract k l.size)) false) := Lib.hid (.inl ⟨rfl, by rw [(getT_end HGT.out).1 rfl, hDN], rfl⟩)
    clear hr hDN
    go_wp2_with fail
    go_ret
    exact ⟨t, _, false, rfl, HR2.out, HB.out, HDZ.out, HP.out, HQ.out⟩
  · have HR2 := Lib.hid hr
    have HP : Hid (PrtM getT (strN l) b t (strN l) true) := Lib.hid (by
      refine .inr ⟨?_, rfl⟩
      rcases hor with h | h | h
      · exact .inl h
      · exact .inr ((getT_end HGT.out).2 h)
      · exact absurd HK.out (by omega))
    clear hr hor
    go_wp2_with fail
    go_ret
    exact ⟨t, l, true, rfl, HR2.out, HB.out, Nat.le_refl _, HP.out, HQ.out⟩
theorem full_strM {s : ByteArray} (h : s.size ≠ 0) : s.toList.isEmpty = false := by
  cases hs : s.toList with
  | nil =>
    exfalso
    apply h
    have := congrArg List.length hs
    rw [Lib.toList_data] at this
    simpa using this
  | cons a l => rfl
def pKd (s : List Nat) : Option (Nat × List Nat) := match s with
  | [] => none
  | k :: t => some (k, t)
set_option maxRecDepth 100000 in
set_option maxHeartbeats 1000000 in
theorem mkind_any (R : Nat) (l : ByteArray) (b : Bool) (w : World) (hl : l.size ≤ 9223372036854775806) (h : RSM w R l b) : Calls Tryd.prog 66 #[.pointer (some ⟨R, 0, none⟩)] w (PEM pKd (fun n : Nat => .int .i64 (n : Int)) (fun n => n < 256) R l b w) := by
  have HT := Lib.hid (mtake_any R l b 1 0 w hl h)
  clear h
  go_enter Tryd.func66, Tryd.ntmps66
  go_wp2_with fail
  refine HT.out.mono ?_
  rintro e w2 ⟨hb, hc⟩
  have HB := Lib.hid hb
  clear hb HT
  rcases hc with ⟨rfl, _, hk, rfl, hr⟩ | ⟨hor, rfl, hr⟩
  · have HR2 := Lib.hid hr
    have hDN : strN (l.extract 1 l.size) = (strN l).drop 1 := extract_strN l 1
    have HDZ : Hid ((l.extract 1 l.size).size ≤ l.size) := Lib.hid (by rw [← strN_length, hDN, List.length_drop, strN_length]; omega)
    have hes : (l.extract 0 1).size = 1 := by simp; omega
    have hft := full_strM (s := l.extract 0 1) (by omega)
    have e1 : (((l.extract 0 1).size : Nat) : Int) = 1 := by omega
    have hl0 : 0 < l.size := by omega
    have hx : ∀ h, ((l.extract 0 1)[0]'h).toNat = (l[0]'hl0).toNat := fun h => by rw [ByteArray.getElem_extract]
    have hq : strN l = (l[0]'hl0).toNat :: (strN l).drop 1 := by
      have h1 : 0 < (strN l).length := by rw [strN_length]; exact hl0
      have := List.drop_eq_getElem_cons h1
      rw [List.drop_zero] at this
      rw [this]
      congr 1
      simp only [strN, List.getElem_map, Array.getElem_toList]
      rfl
    have hq2 : (l[0]'hl0).toNat < 256 := UInt8.toNat_lt _
    generalize (l[0]'hl0).toNat = q at *
    have HP : Hid (PrtM pKd (strN l) false q (strN (l.extract 1 l.size)) false) := Lib.hid (.inl ⟨rfl, by rw [hDN, hq]; rfl, rfl⟩)
    have HQ2 := Lib.hid hq2
    have e2 : (q : Int) < 256 := by omega
    have e3 : (0 : Int) ≤ (q : Int) := Int.natCast_nonneg _
    have e4 : wrap64 (q : Int) = (q : Int) := by simp only [wrap64]; omega
    clear hr hq hDN hq2
    generalize l.extract 0 1 = E at *
    go_wp2_with fail
    go_ret
    exact ⟨q, _, false, rfl, HR2.out, HB.out, HDZ.out, HP.out, HQ2.out⟩
  · have HR2 := Lib.hid hr
    have HP : Hid (PrtM pKd (strN l) b 0 (strN l) true) := Lib.hid (by
      refine .inr ⟨?_, rfl⟩
      rcases hor with h | h | h
      · exact .inl h
      · exact absurd rfl h
      · refine .inr ?_
        have : strN l = [] := List.eq_nil_of_length_eq_zero (by rw [strN_length]; omega)
        rw [this]; rfl)
    clear hr hor
    go_wp2_with fail
    go_ret
    exact ⟨0, l, true, rfl, HR2.out, HB.out, Nat.le_refl _, HP.out, by decide⟩
end Go.Proofs.YtmdodcpmbhehdaaDoor
