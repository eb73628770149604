/- The walk of move's reader: old. -/
import Derived.Test.YtmdodcpmbhehdaaDoorMovePack
import Derived.Test.YtmdodcpmbhehdaaDoorMoveR
import Derived.Test.YtmdodcpmbhehdaaDoorBaseB
namespace Go.Proofs.YtmdodcpmbhehdaaDoor
open Go.RowKit Plain Go.Maps
set_option linter.unusedVariables false
set_option linter.unusedSimpArgs false
/-- what is read of items, in any case -/
def ItRd (x : It) : Prop := x.1.size ≤ 1024 ∧ (-9223372036854775808 ≤ x.2.2.2.1 ∧ x.2.2.2.1 ≤ 9223372036854775807)
def OldEnd (R : Nat) (l : ByteArray) (b : Bool) (w0 : World) (e : Ending) (w : World) : Prop :=
  ∃ o : OM, e = .returned (.agg (omC o).toArray) ∧ BX R w0 w ∧ w.ownsRow w0.heap.size 95 5 (.slice o.2.2.1 o.2.2.2.2.length o.2.2.2.1) o.2.2.2.2.length (o.2.2.2.2.flatMap iC) ∧ o.1.size ≤ 1024 ∧ 0 ≤ o.2.1 ∧ o.2.2.2.2.length ≤ 100 ∧ (∀ x ∈ o.2.2.2.2, ItRd x) ∧ (b = false → ∀ o' u, RdO (strN l) o' u → o' = olOf o)
theorem info_itM : ∃ i, Tryd.prog.info? 95 = some i ∧ i.zero = some (.agg #[.string ⟨#[]⟩, .int .i64 0, .int .i64 0, .int .i64 0, .string ⟨#[]⟩]) ∧ i.size = 5 ∧ i.bytes = 56 := info_parts (by kernel_rfl)
theorem strOf_le {x : List Nat} (h : x.length ≤ 1024) : (strOf x).size ≤ 1024 := by rw [strOf_size]; exact h
def TkP (q : Nat) (l5 : List Nat) (b5 : Bool) (s l6 : List Nat) (b6 : Bool) : Prop := (b5 = false ∧ q ≤ l5.length ∧ s = l5.take q ∧ l6 = l5.drop q ∧ b6 = false) ∨ ((b5 = true ∨ l5.length < q) ∧ b6 = true)
theorem im_prt {l p l1 l2 l3 l4 l5 s l6 : List Nat} {k md q : Nat} {it : Int} {b b1 b2 b3 b4 b5 b6 : Bool} (h1 : PrtM getT l b p l1 b1) (h2 : PrtM pKd l1 b1 k l2 b2) (h3 : PrtM (pNum 511) l2 b2 md l3 b3) (h4 : PrtM pInt l3 b3 it l4 b4) (h5 : PrtM (pNum 4096) l4 b4 q l5 b5) (h6 : TkP q l5 b5 s l6 b6) :
    PrtM pIm l b (p, (k : Int), (md : Int), it, s) l6 b6 := by
  have tr5 : b5 = true → b6 = true := fun e => by
    rcases h6 with ⟨h, _⟩ | ⟨_, h⟩
    · rw [e] at h; cases h
    · exact h
  have tr4 : b4 = true → b6 = true := fun e => tr5 (by
    rcases h5 with ⟨h, _⟩ | ⟨_, h⟩
    · rw [e] at h; cases h
    · exact h)
  have tr3 : b3 = true → b6 = true := fun e => tr4 (by
    rcases h4 with ⟨h, _⟩ | ⟨_, h⟩
    · rw [e] at h; cases h
    · exact h)
  have tr2 : b2 = true → b6 = true := fun e => tr3 (by
    rcases h3 with ⟨h, _⟩ | ⟨_, h⟩
    · rw [e] at h; cases h
    · exact h)
  have tr1 : b1 = true → b6 = true := fun e => tr2 (by
    rcases h2 with ⟨h, _⟩ | ⟨_, h⟩
    · rw [e] at h; cases h
    · exact h)
  rcases h1 with ⟨rfl, a1, rfl⟩ | ⟨a1, rfl⟩
  · have st : ∀ {c : Prop}, (false = true ∨ c) → c := fun h => by rcases h with h | h; · cases h
                                                                  · exact h
    cases l1 with
    | nil =>
      have e1 : pIm l = none := by unfold pIm; rw [a1]
      rcases h2 with ⟨_, a2, _⟩ | ⟨_, rfl⟩
      · cases a2
      · exact .inr ⟨.inr e1, tr2 rfl⟩
    | cons c t =>
      rcases h2 with ⟨_, a2, rfl⟩ | ⟨a2, rfl⟩
      · injection a2 with a2
        simp only [Prod.mk.injEq] at a2
        obtain ⟨rfl, rfl⟩ := a2
        rcases h3 with ⟨_, a3, rfl⟩ | ⟨a3, rfl⟩
        · rcases h4 with ⟨_, a4, rfl⟩ | ⟨a4, rfl⟩
          · rcases h5 with ⟨_, a5, rfl⟩ | ⟨a5, rfl⟩
            · rcases h6 with ⟨_, a6, rfl, rfl, rfl⟩ | ⟨a6, rfl⟩
              · refine .inl ⟨rfl, ?_, rfl⟩
                unfold pIm
                simp only [a1, a3, a4, a5]
                rw [if_neg (by omega)]
              · refine .inr ⟨.inr ?_, rfl⟩
                have a6 := st a6
                unfold pIm
                simp only [a1, a3, a4, a5]
                rw [if_pos a6]
            · refine .inr ⟨.inr ?_, tr5 rfl⟩
              have a5 := st a5
              unfold pIm
              simp only [a1, a3, a4, a5]
          · refine .inr ⟨.inr ?_, tr4 rfl⟩
            have a4 := st a4
            unfold pIm
            simp only [a1, a3, a4]
        · refine .inr ⟨.inr ?_, tr3 rfl⟩
          have a3 := st a3
          unfold pIm
          simp only [a1, a3]
      · have a2 := st a2
        cases a2
  · rcases a1 with rfl | a1
    · exact .inr ⟨.inl rfl, tr1 rfl⟩
    · refine .inr ⟨.inr ?_, tr1 rfl⟩
      unfold pIm
      rw [a1]
theorem own_neM {w : World} {base : Nat} {t t' : TypeId} {k n g : Nat} {v : Value} {xs : List Value} {cs : Array Value} {fr : Nat × Nat} (h : w.ownsRow base t k v n xs) (hg : w.heap[g]? = some (.cells cs t' fr)) (ht : t ≠ t') : v.ownBlock ≠ some g := by
  rcases h.2 with ⟨rfl, _⟩ | ⟨g', cap, cur, rfl, _, hh, _⟩
  · simp [Value.ownBlock]
  · intro he
    have : g' = g := by simpa [Value.ownBlock] using he
    subst this
    rw [hh] at hg
    injection hg with hg
    injection hg with _ hg
    exact ht hg
theorem take_strNM (l : ByteArray) (n : Nat) : strN (l.extract 0 n) = (strN l).take n := by
  unfold strN
  rw [← List.map_take]
  congr 1
  simp
theorem BX.trans_grown {R : Nat} {a b c : World} {v : Option Nat} (h : BX R a b) (g : b.grownBy c v) (hv : ∀ k, v = some k → a.heap.size ≤ k) : BX R a c :=
  ⟨⟨g.os.trans h.1.os, g.tape.trans h.1.tape, g.output.trans h.1.output, Nat.le_trans h.1.size g.size, fun _ hk => absurd hk (Nat.not_lt_zero _)⟩, fun k hk hne => (g.block k (Nat.lt_of_lt_of_le hk h.1.size) (fun e => by have := hv k e.symm; omega)).trans (h.2 k hk hne)⟩
theorem bx_setHi {R : Nat} {a b : World} (h : BX R a b) {B : Nat} (hB : a.heap.size ≤ B) (i : Nat) (v : Value) : BX R a (b.setCell ⟨B, i, none⟩ v) :=
  ⟨h.1.trans ((Below.refl 0 b).setCell (p := ⟨B, i, none⟩) (Nat.zero_le _) v), fun k hk hne => (Below.heap_setCell _ _ _ _ (by show k ≠ B; omega)).trans (h.2 k hk hne)⟩
set_option maxRecDepth 100000 in
set_option maxHeartbeats 8000000 in
theorem old_any (R : Nat) (l : ByteArray) (w : World) (hl : l.size ≤ 9223372036854775806) (h : RSM w R l false) :
    Calls Tryd.prog 41 #[.pointer (some ⟨R, 0, none⟩)] w (OldEnd R l false w) := by
  obtain ⟨i0, hi0, hz0, hz1, hz2⟩ := info_itM
  have hlt := lt_of_block h
  have HRL := Lib.hid hlt
  have HA0 := Lib.hid ((Below.refl w.heap.size w).alloc (Nat.le_refl _) (.cells #[.string ⟨#[]⟩, .int .i64 0, .slice none 0 0] 57))
  have HR0 := Lib.hid (h.below HA0.out)
  have HX0 := Lib.hid (heap_alloc_new w (.cells #[.string ⟨#[]⟩, .int .i64 0, .slice none 0 0] 57))
  have HTX := Lib.hid fun l b u hz (hu : RSM u R l b) => mtext_any R l b u hz hu
  have HNU := Lib.hid fun l b most u hz hm (hu : RSM u R l b) => mnumber_any R l b most u hz hm hu
  have HIN := Lib.hid fun l b u hz (hu : RSM u R l b) => minteger_any R l b u hz hu
  have HKI := Lib.hid fun l b u hz (hu : RSM u R l b) => mkind_any R l b u hz hu
  have HTK := Lib.hid fun l b n e u hz (hu : RSM u R l b) => mtake_any R l b n e u hz hu
  clear h
  go_enter Tryd.func41, Tryd.ntmps41
  go_wp2_with fail
  generalize hw0 : (w.alloc (.cells #[.string ⟨#[]⟩, .int .i64 0, .slice none 0 0] 57)) = w0 at *
  refine (HTX.out l false w0 hl HR0.out).mono ?_
  rintro e w1 ⟨x1, l1, b1, rfl, hr, hb, hz, hp, hq⟩
  have HR1 := Lib.hid hr
  have HB1 := Lib.hid hb
  have HZ1 := Lib.hid (Nat.le_trans hz hl)
  have HP1 := Lib.hid hp
  have HQ1 := Lib.hid hq
  clear hr hb hz hp hq
  go_wp2_with fail
  refine (HNU.out l1 b1 4223371679 w1 HZ1.out (by decide) HR1.out).mono ?_
  rintro e w2 ⟨tm, l2, b2, rfl, hr, hb, hz, hp, hq⟩
  have HR2 := Lib.hid hr
  have HB2 := Lib.hid (HB1.out.trans hb)
  have HZ2 := Lib.hid (Nat.le_trans hz HZ1.out)
  have HP2 := Lib.hid hp
  have HQ2 := Lib.hid hq
  clear hr hb hz hp hq HR1 HB1
  have HA2 := Lib.hid ((Below.refl w2.heap.size w2).alloc (Nat.le_refl _) (.cells #[.string (strOf x1), .int .i64 (tm : Int), .slice none 0 0] 57))
  have HX2 := Lib.hid (heap_alloc_new w2 (.cells #[.string (strOf x1), .int .i64 (tm : Int), .slice none 0 0] 57))
  have HR2a := Lib.hid (HR2.out.below HA2.out)
  have HB2a := Lib.hid (HB2.out.step HA2.out)
  have HOB : Hid (w.heap.size < w2.heap.size) := Lib.hid (by have h1 := HB2.out.1.size; have h2 := lt_of_block HX0.out; omega)
  have HT2 := Lib.hid (HB2a.out.block (by have := HRL.out; omega) HX0.out)
  clear HR2 HB2 HX0 HA2
  go_wp2_with fail
  generalize (w2.alloc (.cells #[.string (strOf x1), .int .i64 (tm : Int), .slice none 0 0] 57)) = w2a at *
  generalize w2.heap.size = OB at *
  refine (HNU.out l2 b2 100 w2a HZ2.out (by decide) HR2a.out).mono ?_
  rintro e w3 ⟨n, l3, b3, rfl, hr, hb, hz, hp, hq⟩
  have HR3 := Lib.hid hr
  have HT3 := Lib.hid (hb.block (by have := HRL.out; omega) HT2.out)
  have HO3 := Lib.hid (hb.block (by have := HRL.out; have := HOB.out; omega) HX2.out)
  have HB3 := Lib.hid (((BX.of_below HA0.out).trans HB2a.out).trans hb)
  have HZ3 := Lib.hid (Nat.le_trans hz HZ2.out)
  have HS3 := Lib.hid (ImS.start HP1.out HP2.out hp)
  have hn : n ≤ 100 := hq
  clear hr hb hz hp hq HR2a HB2a HT2 HX2 HP1 HP2
  go_wp2_with fail
  clear HR0 HA0 HZ2
  go_loopw [12] (fun iv wr => ∃ (i : Nat) (oa : Option Addr) (oc : Nat) (S : List It) (l' : ByteArray) (b' : Bool), i ≤ n ∧ iv = .int .i64 (i : Int) ∧ Hid (S.length = i) ∧ Hid (RSM wr R l' b') ∧ Hid (BX R w wr) ∧ Hid (wr.heap[w.heap.size]? = some (.cells #[.string ⟨#[]⟩, .int .i64 0, .slice none 0 0] 57 (0, 0))) ∧ Hid (wr.heap[OB]? = some (.cells #[.string (strOf x1), .int .i64 (tm : Int), .slice oa S.length oc] 57 (0, 0))) ∧ Hid (wr.ownsRow w.heap.size 95 5 (.slice oa S.length oc) S.length (S.flatMap iC)) ∧ Hid (l'.size ≤ 9223372036854775806) ∧ Hid (ImS (strN l) x1 tm n (S.map imOf) (strN l') b') ∧ Hid (∀ x ∈ S, ItRd x)) (fun iv _ => n - (intOf iv).toNat)
  case atStart => exact ⟨0, none, 0, [], l3, b3, by omega, rfl, Lib.hid rfl, HR3, HB3, HT3, HO3, Lib.hid (World.ownsRow_nil _ _ _ _), HZ3, HS3, Lib.hid (by simp)⟩
  case round =>
    obtain ⟨i, oa, oc, S, l', b', hi, rfl, HSL, HR, HB, HT, HO, HW, HZ, HIS, HIT⟩ := hrel
    clear HR3 HB3 HT3 HO3 HZ3 HS3
    by_cases hlt : i < n
    · have m1 : (i : Int) < (n : Int) := by omega
      go_wp2_with fail
      refine (HTX.out l' b' wr HZ.out HR.out).mono ?_
      rintro e u1 ⟨p, q1, c1, rfl, hr, hb, hz, hp, hq⟩
      have HRa := Lib.hid hr
      have HBa := Lib.hid hb
      have HZa := Lib.hid (Nat.le_trans hz HZ.out)
      have HPa := Lib.hid hp
      have HQa := Lib.hid hq
      clear hr hb hz hp hq
      go_wp2_with fail
      refine (HKI.out q1 c1 u1 HZa.out HRa.out).mono ?_
      rintro e u2 ⟨k, q2, c2, rfl, hr, hb, hz, hp, hq⟩
      have HRb := Lib.hid hr
      have HBb := Lib.hid (HBa.out.trans hb)
      have HZb := Lib.hid (Nat.le_trans hz HZa.out)
      have HPb := Lib.hid hp
      have hk9 : k < 256 := hq
      clear hr hb hz hp hq HRa HBa
      go_wp2_with fail
      refine (HNU.out q2 c2 511 u2 HZb.out (by decide) HRb.out).mono ?_
      rintro e u3 ⟨md, q3, c3, rfl, hr, hb, hz, hp, hq⟩
      have HRc := Lib.hid hr
      have HBc := Lib.hid (HBb.out.trans hb)
      have HZc := Lib.hid (Nat.le_trans hz HZb.out)
      have HPc := Lib.hid hp
      have hmd : md ≤ 511 := hq
      clear hr hb hz hp hq HRb HBb
      go_wp2_with fail
      refine (HIN.out q3 c3 u3 HZc.out HRc.out).mono ?_
      rintro e u4 ⟨it, q4, c4, rfl, hr, hb, hz, hp, hq⟩
      have HRd := Lib.hid hr
      have HBd := Lib.hid (HBc.out.trans hb)
      have HZd := Lib.hid (Nat.le_trans hz HZc.out)
      have HPd := Lib.hid hp
      have HQd := Lib.hid hq
      have HAI := Lib.hid ((Below.refl u4.heap.size u4).alloc (Nat.le_refl _) (.cells #[.string (strOf p), .int .i64 (k : Int), .int .i64 (md : Int), .int .i64 it, .string ⟨#[]⟩] 95))
      have HXI := Lib.hid (heap_alloc_new u4 (.cells #[.string (strOf p), .int .i64 (k : Int), .int .i64 (md : Int), .int .i64 it, .string ⟨#[]⟩] 95))
      clear hr hb hz hp hq HRc HBc
      have HR5 := Lib.hid (HRd.out.below HAI.out)
      have HB5 := Lib.hid (HBd.out.step HAI.out)
      have HIB : Hid (OB < u4.heap.size) := Lib.hid (by have h1 := HBd.out.1.size; have h2 := lt_of_block HO.out; omega)
      have HWL : Hid (∀ k, (Value.slice oa S.length oc).ownBlock = some k → k < u4.heap.size) := Lib.hid fun k hk => Nat.lt_of_lt_of_le (HW.out.lt k hk).2 HBd.out.1.size
      clear HRd HBd HAI
      go_wp2_with fail
      generalize (u4.alloc (.cells #[.string (strOf p), .int .i64 (k : Int), .int .i64 (md : Int), .int .i64 it, .string ⟨#[]⟩] 95)) = u4a at *
      refine (HNU.out q4 c4 4096 u4a HZd.out (by decide) HR5.out).mono ?_
      rintro e u5 ⟨q, q5, c5, rfl, hr, hb, hz, hp, hq⟩
      have hIR : u4.heap.size ≠ R := by have := HRL.out; have := HOB.out; have := HIB.out; omega
      have HRe := Lib.hid hr
      have HXe := Lib.hid (hb.block hIR HXI.out)
      have HBe := Lib.hid (HB5.out.trans hb)
      have HZe := Lib.hid (Nat.le_trans hz HZd.out)
      have HPe := Lib.hid hp
      have hq9 : q ≤ 4096 := hq
      clear hr hb hz hp hq HR5 HB5 HXI
      go_wp2_with fail
      refine (HTK.out q5 c5 q 0 u5 HZe.out HRe.out).mono ?_
      rintro e u6 ⟨hb, hc⟩
      have HXf := Lib.hid (hb.block hIR HXe.out)
      have HBf := Lib.hid (HBe.out.trans hb)
      obtain ⟨sv, q6, c6, rfl, hr6, htk, hz6⟩ : ∃ (sv q6 : ByteArray) (c6 : Bool), e = .returned (.string sv) ∧ RSM u6 R q6 c6 ∧ TkP q (strN q5) c5 (strN sv) (strN q6) c6 ∧ q6.size ≤ q5.size := by
        rcases hc with ⟨h1, _, h3, h4, h5⟩ | ⟨h1, h4, h5⟩
        · refine ⟨_, _, false, h4, h5, .inl ⟨h1, by rw [strN_length]; exact h3, take_strNM _ _, extract_strN _ _, rfl⟩, ?_⟩
          rw [← strN_length, extract_strN, List.length_drop, strN_length]
          omega
        · refine ⟨_, q5, true, h4, h5, .inr ⟨?_, rfl⟩, Nat.le_refl _⟩
          rcases h1 with h1 | h1 | h1
          · exact .inl h1
          · exact absurd rfl h1
          · exact .inr (by rw [strN_length]; exact h1)
      have HR6 := Lib.hid hr6
      have HZ6 := Lib.hid (Nat.le_trans hz6 HZe.out)
      have HIM := Lib.hid (im_prt HPa.out HPb.out HPc.out HPd.out HPe.out htk)
      have HBw := Lib.hid (HB.out.trans HBf.out)
      have HT6 := Lib.hid (HBf.out.block (by have := HRL.out; omega) HT.out)
      have HO6 := Lib.hid (HBf.out.block (by have := HRL.out; have := HOB.out; omega) HO.out)
      have HW6 := Lib.hid (HBf.out.own HW.out (own_neM HW.out HR.out (by decide)))
      clear hb hc hr6 htk hz6 HBe HXe HBf HRe
      have z4 := frozen_of_row _ _ 4 _ _ HXf.out
      have x4 := cell_of_row _ _ 4 _ _ _ HXf.out
      simp only [List.getElem?_toArray, List.getElem?_cons_zero, List.getElem?_cons_succ] at x4
      have hOI : OB ≠ u4.heap.size := by have := HIB.out; omega
      have hTI : w.heap.size ≠ u4.heap.size := by have := HIB.out; have := HOB.out; omega
      have HXg : Hid ((u6.setCell ⟨u4.heap.size, 4, none⟩ (.string sv)).heap[u4.heap.size]? = some (.cells #[.string (strOf p), .int .i64 (k : Int), .int .i64 (md : Int), .int .i64 it, .string sv] 95 (0, 0))) := Lib.hid (rst_set HXf.out 4 (.string sv))
      have HOg : Hid ((u6.setCell ⟨u4.heap.size, 4, none⟩ (.string sv)).heap[OB]? = some (.cells #[.string (strOf x1), .int .i64 (tm : Int), .slice oa S.length oc] 57 (0, 0))) := Lib.hid ((Below.heap_setCell _ _ _ _ hOI).trans HO6.out)
      have HTg : Hid ((u6.setCell ⟨u4.heap.size, 4, none⟩ (.string sv)).heap[w.heap.size]? = some (.cells #[.string ⟨#[]⟩, .int .i64 0, .slice none 0 0] 57 (0, 0))) := Lib.hid ((Below.heap_setCell _ _ _ _ hTI).trans HT6.out)
      have HRg : Hid (RSM (u6.setCell ⟨u4.heap.size, 4, none⟩ (.string sv)) R q6 c6) := Lib.hid ((Below.heap_setCell _ _ _ _ (Ne.symm hIR)).trans HR6.out)
      have HWg := Lib.hid (ownsRow_setCell_other HW6.out (a := ⟨u4.heap.size, 4, none⟩) (fun e => absurd (HWL.out _ e) (Nat.lt_irrefl _)) (.string sv))
      have HBg := Lib.hid (bx_setHi HBw.out (B := u4.heap.size) (by have := HIB.out; have := HOB.out; omega) 4 (.string sv))
      have i2 := cell_of_row _ _ 2 _ _ _ HOg.out
      have y0 := cell_of_row _ _ 0 _ _ _ HXg.out
      have y1 := cell_of_row _ _ 1 _ _ _ HXg.out
      have y2 := cell_of_row _ _ 2 _ _ _ HXg.out
      have y3 := cell_of_row _ _ 3 _ _ _ HXg.out
      have y4 := cell_of_row _ _ 4 _ _ _ HXg.out
      simp only [List.getElem?_toArray, List.getElem?_cons_zero, List.getElem?_cons_succ] at i2 y0 y1 y2 y3 y4
      clear HXf HO6 HT6 HR6 HW6 HBw
      have HAL := Lib.hid ((Below.refl (u6.setCell ⟨u4.heap.size, 4, none⟩ (.string sv)).heap.size (u6.setCell ⟨u4.heap.size, 4, none⟩ (.string sv))).alloc (Nat.le_refl _) (.cells #[.string (strOf p), .int .i64 (k : Int), .int .i64 (md : Int), .int .i64 it, .string sv] 95))
      have D1 := Lib.hid (cells_new_at (u6.setCell ⟨u4.heap.size, 4, none⟩ (.string sv)) u6.heap.size (by simp) #[.string (strOf p), .int .i64 (k : Int), .int .i64 (md : Int), .int .i64 it, .string sv] 95 [.string (strOf p), .int .i64 (k : Int), .int .i64 (md : Int), .int .i64 it, .string sv] rfl)
      have D2 : Hid (∀ u ∈ ([.string (strOf p), .int .i64 (k : Int), .int .i64 (md : Int), .int .i64 it, .string sv] : List Value), u.oneCell' = true) := Lib.hid (iC_one (strOf p, (k : Int), (md : Int), it, sv))
      have D3 : Hid (S.length + 1 ≤ maxLen) := Lib.hid (by have := HSL.out; unfold maxLen; omega)
      have D4 : Hid ((S.length + 1) * 56 ≤ 140737488355328) := Lib.hid (by have := HSL.out; omega)
      have D5 : Hid (w.heap.size ≤ ((u6.setCell ⟨u4.heap.size, 4, none⟩ (.string sv)).alloc (.cells #[.string (strOf p), .int .i64 (k : Int), .int .i64 (md : Int), .int .i64 it, .string sv] 95)).heap.size) := Lib.hid (by have h1 := HBg.out.1.size; have h2 := HAL.out.size; omega)
      have HWh := Lib.hid (own_belowM HWg.out HAL.out)
      have HRh := Lib.hid (HRg.out.below HAL.out)
      have HOh := Lib.hid ((HAL.out.block _ (lt_of_block HOg.out)).trans HOg.out)
      have HTh := Lib.hid ((HAL.out.block _ (lt_of_block HTg.out)).trans HTg.out)
      have HBh := Lib.hid (HBg.out.step HAL.out)
      clear HWg HRg HOg HTg HBg HAL
      go_wp2_with (at_builtin; refine wpList_append_own _ rfl _ _ 55 rfl w.heap.size 95 i0 (.agg #[.string ⟨#[]⟩, .int .i64 0, .int .i64 0, .int .i64 0, .string ⟨#[]⟩]) 5 56 Tryd.underlying55 hi0 hz0 hz1 hz2 rfl (by decide) _ _ _ rfl HWh.out ⟨u6.heap.size, 0, none⟩ 1 1 [.string (strOf p), .int .i64 (k : Int), .int .i64 (md : Int), .int .i64 it, .string sv] rfl rfl D1.out D2.out D3.out D4.out D5.out ?_)
      intro v' w7 hown' hgrow _
      obtain ⟨oa2, oc2, rfl⟩ := own_form1 hown'
      have HW7 : Hid (w7.ownsRow w.heap.size 95 5 (.slice oa2 (S ++ [((strOf p, (k : Int), (md : Int), it, sv) : It)]).length oc2) (S ++ [((strOf p, (k : Int), (md : Int), it, sv) : It)]).length ((S ++ [((strOf p, (k : Int), (md : Int), it, sv) : It)]).flatMap iC)) := Lib.hid (by
        rw [List.length_append, List.flatMap_append]
        exact hown')
      have blk : ∀ {g : Nat} {cs : Array Value} {t' : TypeId}, ((u6.setCell ⟨u4.heap.size, 4, none⟩ (.string sv)).alloc (.cells #[.string (strOf p), .int .i64 (k : Int), .int .i64 (md : Int), .int .i64 it, .string sv] 95)).heap[g]? = some (.cells cs t' (0, 0)) → 95 ≠ t' → w7.heap[g]? = some (.cells cs t' (0, 0)) := fun hg ht => (hgrow.block _ (lt_of_block hg) (fun e => own_neM HWh.out hg ht e.symm)).trans hg
      have HR7 : Hid (RSM w7 R q6 c6) := Lib.hid (blk HRh.out (by decide))
      have HO7 := Lib.hid (blk HOh.out (by decide))
      have HT7 := Lib.hid (blk HTh.out (by decide))
      have HB7 : Hid (BX R w w7) := Lib.hid (HBh.out.trans_grown hgrow (fun k hk => (HWh.out.lt k hk).1))
      have z2 := frozen_of_row _ _ 2 _ _ HO7.out
      have j2 := cell_of_row _ _ 2 _ _ _ HO7.out
      simp only [List.getElem?_toArray, List.getElem?_cons_zero, List.getElem?_cons_succ] at j2
      clear hown' hgrow blk D1 D2 D3 D4 D5 HWh HRh HOh HTh HBh x4 z4 i2 y0 y1 y2 y3 y4
      go_wp2_with fail
      have HIX : Hid ((S ++ [((strOf p, (k : Int), (md : Int), it, sv) : It)]).map imOf = S.map imOf ++ [(p, (k : Int), (md : Int), it, strN sv)]) := Lib.hid (by
        rw [List.map_append]
        simp only [List.map_cons, List.map_nil, imOf]
        rw [strN_strOf p HQa.out.2])
      have HRD : Hid (∀ x ∈ S ++ [((strOf p, (k : Int), (md : Int), it, sv) : It)], ItRd x) := Lib.hid (fun x hx => by
        rcases List.mem_append.1 hx with hx | hx
        · exact HIT.out x hx
        · rw [List.mem_singleton] at hx
          subst hx
          exact ⟨strOf_le HQa.out.1, HQd.out⟩)
      have hSL : (S ++ [((strOf p, (k : Int), (md : Int), it, sv) : It)]).length = S.length + 1 := by simp
      have HIN := Lib.hid (HIS.out.next (by rw [List.length_map, HSL.out]; exact hlt) HIM.out)
      rw [← HIX.out] at HIN
      generalize S ++ [((strOf p, (k : Int), (md : Int), it, sv) : It)] = S2 at *
      rw [← hSL]
      have hOR : R ≠ OB := by have := HRL.out; have := HOB.out; omega
      have hOT : w.heap.size ≠ OB := by have := HOB.out; omega
      refine ⟨⟨i + 1, oa2, oc2, S2, q6, c6, by omega, by go_num, Lib.hid (by rw [hSL, HSL.out]), Lib.hid ((Below.heap_setCell _ _ _ _ hOR).trans HR7.out), Lib.hid (bx_setHi HB7.out (by have := HOB.out; omega) 2 _), Lib.hid ((Below.heap_setCell _ _ _ _ hOT).trans HT7.out), Lib.hid (rst_set HO7.out 2 _), Lib.hid (ownsRow_setCell_other HW7.out (a := ⟨OB, 2, none⟩) (fun e => own_neM HW7.out HO7.out (by decide) e) _), HZ6, HIN, HRD⟩, by simp [intOf]; omega⟩
    · have m1 : ¬ (i : Int) < (n : Int) := by omega
      have o0 := cell_of_row _ _ 0 _ _ _ HO.out
      have o1 := cell_of_row _ _ 1 _ _ _ HO.out
      have o2 := cell_of_row _ _ 2 _ _ _ HO.out
      have t0 := cell_of_row _ _ 0 _ _ _ HT.out
      have t1 := cell_of_row _ _ 1 _ _ _ HT.out
      have t2 := cell_of_row _ _ 2 _ _ _ HT.out
      have z0 := frozen_of_row _ _ 0 _ _ HT.out
      have z1 := frozen_of_row _ _ 1 _ _ HT.out
      have z2 := frozen_of_row _ _ 2 _ _ HT.out
      simp only [List.getElem?_toArray, List.getElem?_cons_zero, List.getElem?_cons_succ] at o0 o1 o2 t0 t1 t2
      go_wp2_with fail
      have HFIN := Lib.hid (rst_set (rst_set (rst_set HT.out 0 (.string (strOf x1))) 1 (.int .i64 (tm : Int))) 2 (.slice oa S.length oc))
      have hIT : R ≠ w.heap.size := by have := HRL.out; omega
      have HOF := Lib.hid (ImS.fin HIS.out (by
        by_cases hb : b' = true
        · exact .inr hb
        · exact .inl (by rw [List.length_map, HSL.out]; omega)))
      have hne := fun {u : World} (h : u.heap[w.heap.size]? = some (.cells (#[.string ⟨#[]⟩, .int .i64 0, .slice none 0 0] : Array Value) 57 (0, 0))) => h
      refine bodyPost_ret (results_cell_row (p := 2) (ty := 57) rfl _ _ w.heap.size 57 #[.string (strOf x1), .int .i64 (tm : Int), .slice oa S.length oc] (0, 0) _ rfl HFIN.out Tryd.underlying57 rfl (by kernel_rfl)) rfl ?_
      refine ⟨(strOf x1, (tm : Int), oa, oc, S), rfl, bx_setHi (bx_setHi (bx_setHi HB.out (Nat.le_refl _) 0 _) (Nat.le_refl _) 1 _) (Nat.le_refl _) 2 _, ?_, strOf_le HQ1.out.1, Int.natCast_nonneg _, by show S.length ≤ 100; have := HSL.out; omega, HIT.out, fun _ o' u h => ?_⟩
      · have e0 := own_neM HW.out HT.out (by decide)
        have g0 := ownsRow_setCell_other HW.out (a := ⟨w.heap.size, 0, none⟩) (fun e => e0 e) (.string (strOf x1))
        have g1 := ownsRow_setCell_other g0 (a := ⟨w.heap.size, 1, none⟩) (fun e => e0 e) (.int .i64 (tm : Int))
        exact ownsRow_setCell_other g1 (a := ⟨w.heap.size, 2, none⟩) (fun e => e0 e) (.slice oa S.length oc)
      · have := HOF.out o' u h
        rw [this]
        simp only [olOf]
        rw [strN_strOf x1 HQ1.out.2]
        rfl
end Go.Proofs.YtmdodcpmbhehdaaDoor
