/- Joined: TreeR, TreeB. -/
import Derived.Test.YtbfoonfbhebhfaaGreatDoorKGnH
import Derived.Test.YtbfoonfbhebhfaaGreatDoorKGnL
import Derived.Test.YtbfoonfbhebhfaaGreatDoorKGnM
namespace Go.Proofs.YtbfoonfbhebhfaaGreatDoor
open Go.RowKit Plain
def BX (R : Nat) (w w' : World) : Prop := Below 0 w w' ∧ ∀ k, k < w.heap.size → k ≠ R → w'.heap[k]? = w.heap[k]?
theorem BX.refl (R : Nat) (w : World) : BX R w w := ⟨Below.refl _ _, fun _ _ _ => rfl⟩
theorem BX.trans {R : Nat} {a b c : World} (h : BX R a b) (g : BX R b c) : BX R a c := ⟨h.1.trans g.1, fun k hk hne => (g.2 k (Nat.lt_of_lt_of_le hk h.1.size) hne).trans (h.2 k hk hne)⟩
theorem BX.of_below {R : Nat} {w w' : World} (h : Below w.heap.size w w') : BX R w w' := ⟨⟨h.os, h.tape, h.output, h.size, fun _ hk => absurd hk (Nat.not_lt_zero _)⟩, fun k hk _ => h.block k hk⟩
theorem BX.step {R : Nat} {a b c : World} (h : BX R a b) (g : Below b.heap.size b c) : BX R a c := h.trans (.of_below g)
theorem BX.alloc {R : Nat} {a b : World} (h : BX R a b) (o : Obj) : BX R a (b.alloc o) := h.step ((Below.refl _ _).alloc (Nat.le_refl _) o)
theorem BX.drew {R : Nat} {a b : World} (h : BX R a b) : BX R a b.drew := ⟨h.1.drew, h.2⟩
theorem BX.set {R : Nat} {a b : World} (h : BX R a b) (i : Nat) (v : Value) : BX R a (b.setCell ⟨R, i, none⟩ v) :=
 h.trans ⟨(Below.refl 0 b).setCell (p := ⟨R, i, none⟩) (Nat.zero_le _) v, fun _ _ hne => Below.heap_setCell _ _ _ _ hne⟩
theorem BX.below {R B : Nat} {w w' : World} (h : BX R w w') (hR : B ≤ R) (hw : B ≤ w.heap.size) : Below B w w' := ⟨h.1.os, h.1.tape, h.1.output, h.1.size, fun k hk => h.2 k (by omega) (by omega)⟩
theorem BX.own {R : Nat} {w w' : World} (h : BX R w w') {base : Nat} {e : TypeId} {k : Nat} {v : Value} {n : Nat} {xs : List Value} (ho : w.ownsRow base e k v n xs) (hR : v.ownBlock ≠ some R) : w'.ownsRow base e k v n xs := by
 refine ⟨ho.1, ?_⟩
 rcases ho.2 with hv | ⟨g, cap, cur, hv, hB, hg, h3⟩
 ·
  exact .inl hv
 ·
  refine .inr ⟨g, cap, cur, hv, hB, (h.2 g (lt_of_block hg) (fun e => hR ?_)).trans hg, h3⟩
  rw [hv, e]
  rfl
theorem BX.block {R : Nat} {w w' : World} (h : BX R w w') {k : Nat} (hne : k ≠ R) {o : Obj} (ho : w.heap[k]? = some o) : w'.heap[k]? = some o := (h.2 k (lt_of_block ho) hne).trans ho
def RSt (w : World) (R : Nat) (l : ByteArray) (e : Nat) : Prop := w.heap[R]? = some (.cells #[.string l, .int .i64 (e : Int)] 168 (0, 0))
theorem RSt.c0 {w : World} {R : Nat} {l : ByteArray} {e : Nat} (h : RSt w R l e) : w.cell? ⟨R, 0, none⟩ = some (.string l) := by
 have := cell_of_row _ _ 0 _ _ _ h
 simpa using this
theorem RSt.c1 {w : World} {R : Nat} {l : ByteArray} {e : Nat} (h : RSt w R l e) : w.cell? ⟨R, 1, none⟩ = some (.int .i64 (e : Int)) := by
 have := cell_of_row _ _ 1 _ _ _ h
 simpa using this
theorem RSt.fz {w : World} {R : Nat} {l : ByteArray} {e : Nat} (h : RSt w R l e) (i : Nat) : w.frozen? ⟨R, i, none⟩ = false := frozen_of_row _ _ _ _ _ h
theorem RSt.below {w w' : World} {R : Nat} {l : ByteArray} {e : Nat} (h : RSt w R l e) (hb : Below w.heap.size w w') : RSt w' R l e := (hb.block _ (lt_of_block h)).trans h
theorem rst_set {w : World} {B : Nat} {C : Array Value} {t : TypeId} (h : w.heap[B]? = some (.cells C t (0, 0))) (i : Nat) (v : Value) : (w.setCell ⟨B, i, none⟩ v).heap[B]? = some (.cells (C.setIfInBounds i v) t (0, 0)) := by
 simp [World.setCell, Array.getElem?_modify, h]
theorem RSt.set0 {w : World} {R : Nat} {l : ByteArray} {e : Nat} (h : RSt w R l e) (l' : ByteArray) : RSt (w.setCell ⟨R, 0, none⟩ (.string l')) R l' e := rst_set h 0 _
theorem RSt.set1 {w : World} {R : Nat} {l : ByteArray} {e : Nat} (h : RSt w R l e) (e' : Nat) : RSt (w.setCell ⟨R, 1, none⟩ (.int .i64 (e' : Int))) R l e' := rst_set h 1 _
def FailEnd (w0 : World) (R : Nat) (l : ByteArray) (e : Nat) (en : Ending) (w : World) : Prop := en = .returned (.tuple #[]) ∧ RSt w R l e ∧ BX R w0 w
set_option maxRecDepth 100000 in
theorem fail_any (R : Nat) (l : ByteArray) (e c : Nat) (w : World) (h : RSt w R l e) : Calls Tryz.prog 98 #[.pointer (some ⟨R, 0, none⟩), .int .i64 (c : Int)] w (FailEnd w R l (if e = 0 then c else e)) := by
 have h1 := h.c1
 have h2 := h.fz 1
 have HR := Lib.hid h
 clear h
 by_cases he : e = 0
 ·
  subst he
  have HN : Hid (RSt (w.setCell ⟨R, 1, none⟩ (.int .i64 (c : Int))) R l (if 0 = 0 then c else 0)) := HR.out.set1 c
  go_enter Tryz.func98, Tryz.ntmps98
  go_wp2_with fail
  go_end0
  exact ⟨rfl, HN.out, (BX.refl R w).set 1 _⟩
 ·
  have f1 : ((e : Int) == 0) = false := by simp; omega
  go_enter Tryz.func98, Tryz.ntmps98
  go_wp2_with fail
  go_end0
  exact ⟨rfl, HR.out, BX.refl R w⟩
def PEnd {α : Type} (p : List Nat → Option (α × List Nat)) (z : α) (V : α → Value) (R : Nat) (l : ByteArray) (e : Nat) (w0 : World) (en : Ending) (w : World) : Prop :=
 ∃ (a : α) (l' : ByteArray) (e' : Nat), en = .returned (V a) ∧ RSt w R l' e' ∧ BX R w0 w ∧ l'.size ≤ l.size ∧ ((e = 0 ∧ p (strN l) = some (a, strN l') ∧ e' = 0) ∨ ((e ≠ 0 ∨ p (strN l) = none) ∧ a = z ∧ e' ≠ 0))
set_option maxRecDepth 100000 in
set_option maxHeartbeats 1000000 in
theorem number_any (R : Nat) (l : ByteArray) (e most : Nat) (w : World) (hl : l.size ≤ 9223372036854775806) (hm : most < 4294967296) (h : RSt w R l e) : Calls Tryz.prog 96 #[.pointer (some ⟨R, 0, none⟩), .int .u64 (most : Int)] w (PEnd (pNum most) 0 (fun n : Nat => .int .i64 (n : Int)) R l e w) := by
 obtain ⟨n, k, c, hg⟩ : ∃ n k c, getN (strN l) = (n, k, c) := ⟨_, _, _, rfl⟩
 have hkb := getN_bound (strN l)
 rw [hg, strN_length] at hkb
 have hk1 : k ≤ l.size := hkb.1
 have hk9 : k ≤ 9 := hkb.2
 have HG : Hid (∀ u, Calls Tryz.prog 117 #[.string l] u fun e w' => e = .returned (.tuple #[.int .u64 (n : Int), .int .i64 (k : Int), .int .i64 (c : Int)]) ∧ u = w') := fun u => by
  have h := get_any l u (by omega)
  unfold GetEnd at h
  rw [hg] at h
  exact h
 have HGN := Lib.hid hg
 have HF := Lib.hid fun e c u hu => fail_any R l e c u hu
 have h0 := h.c0
 have HR := Lib.hid h
 clear h hg hkb
 by_cases he : e = 0
 ·
  subst he
  by_cases hc : c = 0
  ·
   subst hc
   by_cases hn : n ≤ most
   ·
    have f1 : decide ((n : Int) > (most : Int)) = false := decide_eq_false (by omega)
    have f2 : ¬ (most : Int) < (n : Int) := by omega
    have e1 : IntKind.i64.wrap (n : Int) = (n : Int) := wraps_i64 _ (by omega) (by omega)
    have k0 : (0 : Int) ≤ (k : Int) := Int.natCast_nonneg _
    have k1 : (k : Int) ≤ (l.size : Int) := by omega
    obtain ⟨D, hD⟩ : ∃ D, l.extract k l.size = D := ⟨_, rfl⟩
    have hDN : strN D = (strN l).drop k := by rw [← hD]; exact extract_strN l k
    have HP : Hid (pNum most (strN l) = some (n, strN D)) := by
     show _ = _
     unfold pNum
     rw [HGN.out, if_pos ⟨rfl, hn⟩, hDN]
    have HZ : Hid (D.size ≤ l.size) := by show _ ≤ _; rw [← strN_length, hDN, List.length_drop, strN_length]; omega
    clear hn hDN
    go_enter Tryz.func96, Tryz.ntmps96
    go_wp2_with fail
    refine (HG.out _).mono ?_
    rintro e w1 ⟨rfl, rfl⟩
    go_wp2_with fail
    refine (HF.out 0 0 _ HR.out).mono ?_
    rintro e w2 ⟨rfl, hr, hb⟩
    have x0 := hr.c0
    have x1 := hr.c1
    have z0 := hr.fz 0
    have HR2 := Lib.hid hr
    have HB2 := Lib.hid hb
    clear hr hb h0
    simp only [if_true] at x1
    go_wp2_with fail
    go_ret
    exact ⟨n, D, 0, rfl, HR2.out.set0 D, HB2.out.set 0 _, HZ.out, .inl ⟨rfl, HP.out, rfl⟩⟩
   ·
    have f1 : decide ((n : Int) > (most : Int)) = true := decide_eq_true (by omega)
    have f2 : (most : Int) < (n : Int) := by omega
    have HP : Hid (pNum most (strN l) = none) := by
     show _ = _
     unfold pNum
     rw [HGN.out, if_neg (by rintro ⟨_, h⟩; exact hn h)]
    clear hn
    go_enter Tryz.func96, Tryz.ntmps96
    go_wp2_with fail
    refine (HG.out _).mono ?_
    rintro e w1 ⟨rfl, rfl⟩
    go_wp2_with fail
    refine (HF.out 0 0 _ HR.out).mono ?_
    rintro e w2 ⟨rfl, hr, hb⟩
    have x1 := hr.c1
    have HR2 := Lib.hid hr
    have HB2 := Lib.hid hb
    clear hr hb h0
    simp only [if_true] at x1
    go_wp2_with fail
    refine (HF.out 0 2 _ HR2.out).mono ?_
    rintro e w3 ⟨rfl, hr, hb⟩
    have y1 := hr.c1
    have HR3 := Lib.hid hr
    have HB3 := Lib.hid (HB2.out.trans hb)
    clear hr hb x1
    simp only [if_true] at y1
    go_wp2_with fail
    go_ret
    exact ⟨0, l, 2, rfl, HR3.out, HB3.out, Nat.le_refl _, .inr ⟨.inr HP.out, rfl, by decide⟩⟩
  ·
   have f1 : ((c : Int) == 0) = false := by simp; omega
   have f2 : ((c : Int) != 0) = true := by simp; omega
   have HP : Hid (pNum most (strN l) = none) := by
    show _ = _
    unfold pNum
    rw [HGN.out, if_neg (by rintro ⟨h, _⟩; exact hc h)]
   have HC := Lib.hid hc
   clear hc
   go_enter Tryz.func96, Tryz.ntmps96
   go_wp2_with fail
   refine (HG.out _).mono ?_
   rintro e w1 ⟨rfl, rfl⟩
   go_wp2_with fail
   refine (HF.out 0 c _ HR.out).mono ?_
   rintro e w2 ⟨rfl, hr, hb⟩
   have x1 := hr.c1
   have HR2 := Lib.hid hr
   have HB2 := Lib.hid hb
   clear hr hb h0
   simp only [if_true] at x1
   go_wp2_with fail
   go_ret
   exact ⟨0, l, c, rfl, HR2.out, HB2.out, Nat.le_refl _, .inr ⟨.inr HP.out, rfl, HC.out⟩⟩
 ·
  have f1 : ((e : Int) == 0) = false := by simp; omega
  have f2 : ((e : Int) != 0) = true := by simp; omega
  have HE := Lib.hid he
  go_enter Tryz.func96, Tryz.ntmps96
  go_wp2_with fail
  refine (HG.out _).mono ?_
  rintro e' w1 ⟨rfl, rfl⟩
  go_wp2_with fail
  refine (HF.out e c _ HR.out).mono ?_
  rintro e' w2 ⟨rfl, hr, hb⟩
  rw [if_neg he] at hr
  have x1 := hr.c1
  have HR2 := Lib.hid hr
  have HB2 := Lib.hid hb
  clear hr hb h0 he
  go_wp2_with fail
  go_ret
  exact ⟨0, l, e, rfl, HR2.out, HB2.out, Nat.le_refl _, .inr ⟨.inl HE.out, rfl, HE.out⟩⟩
set_option maxRecDepth 100000 in
set_option maxHeartbeats 1000000 in
theorem integer_any (R : Nat) (l : ByteArray) (e : Nat) (w : World) (hl : l.size ≤ 9223372036854775806) (h : RSt w R l e) : Calls Tryz.prog 120 #[.pointer (some ⟨R, 0, none⟩)] w (PEnd pInt 0 (fun n : Int => .int .i64 n) R l e w) := by
 obtain ⟨n, k, c, hg⟩ : ∃ n k c, getI (strN l) = (n, k, c) := ⟨_, _, _, rfl⟩
 have HG : Hid (∀ u, Calls Tryz.prog 136 #[.string l] u fun e w' => e = .returned (.tuple #[.int .i64 n, .int .i64 (k : Int), .int .i64 (c : Int)]) ∧ Below u.heap.size u w') := fun u => by
  have h := getInt_any l u hl
  unfold GetIEnd at h
  rw [hg] at h
  exact h
 have HGN := Lib.hid hg
 clear hg
 have HF := Lib.hid fun e c u hu => fail_any R l e c u hu
 have h0 := h.c0
 have HR := Lib.hid h
 clear h
 by_cases he : e = 0
 ·
  subst he
  go_enter Tryz.func120, Tryz.ntmps120
  go_wp2_with fail
  refine (HG.out _).mono ?_
  rintro e1 w1 ⟨rfl, hb1⟩
  have HR1 := Lib.hid (HR.out.below hb1)
  have HB1 := Lib.hid hb1
  clear hb1
  by_cases hc : c = 0
  ·
   subst hc
   have hkb := (getI_back (strN_lt l) HGN.out).1
   rw [strN_length] at hkb
   have k0 : (0 : Int) ≤ (k : Int) := Int.natCast_nonneg _
   have k1 : (k : Int) ≤ (l.size : Int) := by omega
   obtain ⟨D, hD⟩ : ∃ D, l.extract k l.size = D := ⟨_, rfl⟩
   have hDN : strN D = (strN l).drop k := by rw [← hD]; exact extract_strN l k
   have HP : Hid (pInt (strN l) = some (n, strN D)) := by
    show _ = _
    unfold pInt
    rw [HGN.out, if_pos rfl, hDN]
   have HZ : Hid (D.size ≤ l.size) := by show _ ≤ _; rw [← strN_length, hDN, List.length_drop, strN_length]; omega
   clear hDN hkb
   go_wp2_with fail
   refine (HF.out 0 0 _ HR1.out).mono ?_
   rintro e w2 ⟨rfl, hr, hb⟩
   have x0 := hr.c0
   have x1 := hr.c1
   have z0 := hr.fz 0
   have HR2 := Lib.hid hr
   have HB2 := Lib.hid ((BX.of_below HB1.out).trans hb)
   clear hr hb h0
   simp only [if_true] at x1
   go_wp2_with fail
   go_ret
   exact ⟨_, D, 0, rfl, HR2.out.set0 D, HB2.out.set 0 _, HZ.out, .inl ⟨rfl, HP.out, rfl⟩⟩
  ·
   have f1 : ((c : Int) == 0) = false := by simp; omega
   have f2 : ((c : Int) != 0) = true := by simp; omega
   have HP : Hid (pInt (strN l) = none) := by
    show _ = _
    unfold pInt
    rw [HGN.out, if_neg hc]
   have HC := Lib.hid hc
   clear hc
   go_wp2_with fail
   refine (HF.out 0 c _ HR1.out).mono ?_
   rintro e w2 ⟨rfl, hr, hb⟩
   have x1 := hr.c1
   have HR2 := Lib.hid hr
   have HB2 := Lib.hid ((BX.of_below HB1.out).trans hb)
   clear hr hb h0
   simp only [if_true] at x1
   go_wp2_with fail
   go_ret
   exact ⟨0, l, c, rfl, HR2.out, HB2.out, Nat.le_refl _, .inr ⟨.inr HP.out, rfl, HC.out⟩⟩
 ·
  have f1 : ((e : Int) == 0) = false := by simp; omega
  have f2 : ((e : Int) != 0) = true := by simp; omega
  have HE := Lib.hid he
  go_enter Tryz.func120, Tryz.ntmps120
  go_wp2_with fail
  refine (HG.out _).mono ?_
  rintro e1 w1 ⟨rfl, hb1⟩
  have HR1 := Lib.hid (HR.out.below hb1)
  have HB1 := Lib.hid hb1
  clear hb1 
  go_wp2_with fail
  refine (HF.out e c _ HR1.out).mono ?_
  rintro e' w2 ⟨rfl, hr, hb⟩
  rw [if_neg he] at hr
  have x1 := hr.c1
  have HR2 := Lib.hid hr
  have HB2 := Lib.hid ((BX.of_below HB1.out).trans hb)
  clear hr hb h0 he
  go_wp2_with fail
  go_ret
  exact ⟨0, l, e, rfl, HR2.out, HB2.out, Nat.le_refl _, .inr ⟨.inl HE.out, rfl, HE.out⟩⟩
set_option maxRecDepth 100000 in
set_option maxHeartbeats 1000000 in
theorem text_any (R : Nat) (l : ByteArray) (e : Nat) (w : World) (hl : l.size ≤ 9223372036854775806) (h : RSt w R l e) : Calls Tryz.prog 118 #[.pointer (some ⟨R, 0, none⟩)] w (PEnd getT [] (fun x : List Nat => .string (strOf x)) R l e w) := by
 have HG := Lib.hid fun u => getText_any l u hl
 have HF := Lib.hid fun e c u hu => fail_any R l e c u hu
 have h0 := h.c0
 have HR := Lib.hid h
 clear h
 by_cases he : e = 0
 ·
  subst he
  go_enter Tryz.func118, Tryz.ntmps118
  go_wp2_with fail
  refine (HG.out _).mono ?_
  rintro e1 w1 ⟨t, k, c, hgt, htl, rfl, hb1⟩
  have HR1 := Lib.hid (HR.out.below hb1)
  have HB1 := Lib.hid hb1
  clear hb1
  by_cases hc : c = 0
  ·
   subst hc
   have hkb := hgt.ok.1
   rw [strN_length] at hkb
   have k0 : (0 : Int) ≤ (k : Int) := Int.natCast_nonneg _
   have k1 : (k : Int) ≤ (l.size : Int) := by omega
   obtain ⟨D, hD⟩ : ∃ D, l.extract k l.size = D := ⟨_, rfl⟩
   have hDN : strN D = (strN l).drop k := by rw [← hD]; exact extract_strN l k
   have HP : Hid (getT (strN l) = some (t, strN D)) := by
    show _ = _
    rw [(getT_end hgt).1 rfl, hDN]
   have HZ : Hid (D.size ≤ l.size) := by show _ ≤ _; rw [← strN_length, hDN, List.length_drop, strN_length]; omega
   clear hDN hkb hgt htl
   go_wp2_with fail
   refine (HF.out 0 0 _ HR1.out).mono ?_
   rintro e w2 ⟨rfl, hr, hb⟩
   have x0 := hr.c0
   have x1 := hr.c1
   have z0 := hr.fz 0
   have HR2 := Lib.hid hr
   have HB2 := Lib.hid ((BX.of_below HB1.out).trans hb)
   clear hr hb h0
   simp only [if_true] at x1
   go_wp2_with fail
   go_ret
   exact ⟨_, D, 0, rfl, HR2.out.set0 D, HB2.out.set 0 _, HZ.out, .inl ⟨rfl, HP.out, rfl⟩⟩
  ·
   have f1 : ((c : Int) == 0) = false := by simp; omega
   have f2 : ((c : Int) != 0) = true := by simp; omega
   have HP : Hid (getT (strN l) = none) := (getT_end hgt).2 hc
   clear hgt htl
   have HC := Lib.hid hc
   clear hc
   go_wp2_with fail
   refine (HF.out 0 c _ HR1.out).mono ?_
   rintro e w2 ⟨rfl, hr, hb⟩
   have x1 := hr.c1
   have HR2 := Lib.hid hr
   have HB2 := Lib.hid ((BX.of_below HB1.out).trans hb)
   clear hr hb h0
   simp only [if_true] at x1
   go_wp2_with fail
   go_ret
   exact ⟨[], l, c, rfl, HR2.out, HB2.out, Nat.le_refl _, .inr ⟨.inr HP.out, rfl, HC.out⟩⟩
 ·
  have f1 : ((e : Int) == 0) = false := by simp; omega
  have f2 : ((e : Int) != 0) = true := by simp; omega
  have HE := Lib.hid he
  go_enter Tryz.func118, Tryz.ntmps118
  go_wp2_with fail
  refine (HG.out _).mono ?_
  rintro e1 w1 ⟨t, k, c, hgt, htl, rfl, hb1⟩
  have HR1 := Lib.hid (HR.out.below hb1)
  have HB1 := Lib.hid hb1
  clear hb1 hgt htl
  go_wp2_with fail
  refine (HF.out e c _ HR1.out).mono ?_
  rintro e' w2 ⟨rfl, hr, hb⟩
  rw [if_neg he] at hr
  have x1 := hr.c1
  have HR2 := Lib.hid hr
  have HB2 := Lib.hid ((BX.of_below HB1.out).trans hb)
  clear hr hb h0 he
  go_wp2_with fail
  go_ret
  exact ⟨[], l, e, rfl, HR2.out, HB2.out, Nat.le_refl _, .inr ⟨.inl HE.out, rfl, HE.out⟩⟩
end Go.Proofs.YtbfoonfbhebhfaaGreatDoor
namespace Go.Proofs.YtbfoonfbhebhfaaGreatDoor
open Go.RowKit Plain
theorem info_u8B : (Tryz.prog.info? 5).map (fun i => (i.zero, i.size, i.bytes)) = some (some (.int .u8 0), 1, 1) := by kernel_rfl
def BytesEnd (R : Nat) (l : ByteArray) (e n : Nat) (w0 : World) (en : Ending) (w : World) : Prop :=
 ∃ (g cap : Nat) (x : List Nat) (l' : ByteArray) (e' : Nat), n ≤ cap ∧ en = .returned (.slice (some ⟨g, 0, none⟩) n cap) ∧ RSt w R l' e' ∧ BX R w0 w ∧ w0.heap.size ≤ g ∧ g < w.heap.size ∧ w.rangeAt g 0 (x.map bV) ∧ x.length = n ∧ (∀ c ∈ x, c < 256) ∧ l'.size ≤ l.size ∧ ((e = 0 ∧ strN l = x ++ strN l' ∧ e' = 0) ∨ ((e ≠ 0 ∨ l.size < n) ∧ e' ≠ 0))
theorem range_other {w w' : World} {b o : Nat} {cs : List Value} (h : w.rangeAt b o cs) (hb : w'.heap[b]? = w.heap[b]?) : w'.rangeAt b o cs := fun j v hj => (by rw [← h j v hj]; simp only [World.cell?, hb])
theorem range_zeros (w : World) (n : Nat) : (w.alloc (.cells (Array.replicate n (bV 0)) 5)).rangeAt w.heap.size 0 ((List.replicate n 0).map bV) := by
 intro j v hj
 rw [Nat.zero_add, cell_of_row _ _ _ _ _ _ (heap_alloc_new w _), ← hj, List.map_replicate, ← Array.getElem?_toList, Array.toList_replicate]
set_option maxRecDepth 100000 in
set_option maxHeartbeats 1000000 in
theorem rbytes_any (R : Nat) (l : ByteArray) (e n : Nat) (w : World) (hn : n ≤ 8) (h : RSt w R l e) : Calls Tryz.prog 119 #[.pointer (some ⟨R, 0, none⟩), .int .i64 (n : Int)] w (BytesEnd R l e n w) := by
 have HF := Lib.hid fun e c u hu => fail_any R l e c u hu
 have hmk := fun (wx : World) => run_make_bytes (P := Tryz.prog) wx 115 5 Tryz.underlying115 info_u8B (n : Int) (by omega) (by omega)
 simp only [Int.toNat_natCast] at hmk
 have h0 := h.c0
 have h1 := h.c1
 have hz0 := h.fz 0
 have HR := Lib.hid h
 have hRl := lt_of_block h
 clear h
 by_cases hsz : l.size < n
 ·
  have f1 : decide ((l.size : Int) < (n : Int)) = true := decide_eq_true (by omega)
  have f3 : (l.size : Int) < (n : Int) := by omega
  obtain ⟨e2, he2⟩ : ∃ e2, e2 = if e = 0 then 3 else e := ⟨_, rfl⟩
  have he20 : e2 ≠ 0 := by rw [he2]; split <;> omega
  have HF3 := Lib.hid (HF.out e 3 w HR.out)
  rw [← he2] at HF3
  have HE := Lib.hid he20
  have HS := Lib.hid hsz
  have f2 : ((e2 : Int) != 0) = true := by simp; omega
  clear hsz he2
  go_enter Tryz.func119, Tryz.ntmps119
  go_wp2_with fail
  refine HF3.out.mono ?_
  rintro e' w2 ⟨rfl, hr, hb⟩
  have x1 := hr.c1
  have HR2 := Lib.hid (hr.below ((Below.refl w2.heap.size w2).alloc (Nat.le_refl _) (.cells (Array.replicate n (bV 0)) 5)))
  have HB2 := Lib.hid (hb.alloc (.cells (Array.replicate n (bV 0)) 5))
  have HSZ : Hid (w.heap.size ≤ w2.heap.size) := hb.1.size
  have HZ := Lib.hid (range_zeros w2 n)
  clear hr hb he20 h0 h1 hz0
  go_wp2_with fail
  go_ret
  exact ⟨w2.heap.size, n, List.replicate n 0, l, e2, Nat.le_refl _, rfl, HR2.out, HB2.out, HSZ.out, by simp, HZ.out, by simp, by simp, Nat.le_refl _, .inr ⟨.inr HS.out, HE.out⟩⟩
 ·
  have f1 : decide ((l.size : Int) < (n : Int)) = false := decide_eq_false (by omega)
  have f3 : ¬ (l.size : Int) < (n : Int) := by omega
  by_cases he : e = 0
  ·
   subst he
   have k0 : (0 : Int) ≤ (n : Int) := Int.natCast_nonneg _
   have k1 : (n : Int) ≤ (l.size : Int) := by omega
   obtain ⟨X, hX⟩ : ∃ X, l.extract 0 n = X := ⟨_, rfl⟩
   obtain ⟨D, hD⟩ : ∃ D, l.extract n l.size = D := ⟨_, rfl⟩
   have hXN : strN X = (strN l).take n := by rw [← hX, extract_strN']; simp
   have hDN : strN D = (strN l).drop n := by rw [← hD]; exact extract_strN l n
   have hXz : X.size = n := by rw [← strN_length, hXN, List.length_take, strN_length]; omega
   have HP : Hid (strN l = strN X ++ strN D) := by show _ = _; rw [hXN, hDN, List.take_append_drop]
   have HZ : Hid (D.size ≤ l.size) := by show _ ≤ _; rw [← strN_length, hDN, List.length_drop, strN_length]; omega
   have hconv := fun (wx : World) => Lib.run_convert_string_bytes (P := Tryz.prog) wx 9 115 5 X Tryz.underlying9 Tryz.underlying115 Tryz.underlying5
   simp only [hXz] at hconv
   have HC := Lib.hid (crow_bytes w 5 X)
   have HB := Lib.hid (bytesWorld_below (w := w) 5 X)
   have HR2 := Lib.hid (HR.out.below HB.out)
   have x0 := HR2.out.c0
   have x1 := HR2.out.c1
   have z0 := HR2.out.fz 0
   have HXL : Hid ((strN X).length = n) := by show _ = _; rw [strN_length]; exact hXz
   have HCP : Hid (n ≤ grownCap w n 0 5) := grownCap_ge w n 0 _
   clear hXN hDN hXz hsz
   go_enter Tryz.func119, Tryz.ntmps119
   go_wp2_with fail
   go_ret
   refine ⟨w.heap.size, _, strN X, D, 0, HCP.out, rfl, HR2.out.set0 D, (BX.of_below HB.out).set 0 _, Nat.le_refl _, ?_, ?_, HXL.out, strN_lt X, HZ.out, .inl ⟨rfl, HP.out, rfl⟩⟩
   ·
    simpa using HC.out.lt
   ·
    exact range_other (range_of_crow HC.out) (Below.heap_setCell _ _ _ _ (by show w.heap.size ≠ R; omega))
  ·
   have f2 : ((e : Int) != 0) = true := by simp; omega
   have HE := Lib.hid he
   have HR2 := Lib.hid (HR.out.below ((Below.refl w.heap.size w).alloc (Nat.le_refl _) (.cells (Array.replicate n (bV 0)) 5)))
   have HZ := Lib.hid (range_zeros w n)
   clear hsz he
   go_enter Tryz.func119, Tryz.ntmps119
   go_wp2_with fail
   go_ret
   exact ⟨w.heap.size, n, List.replicate n 0, l, e, Nat.le_refl _, rfl, HR2.out, (BX.refl R w).alloc _, Nat.le_refl _, by simp, HZ.out, by simp, by simp, Nat.le_refl _, .inr ⟨.inl HE.out, HE.out⟩⟩
end Go.Proofs.YtbfoonfbhebhfaaGreatDoor
