/- Joined: TreeCheck, NumOut. -/
import Derived.Test.YtbfoonfbhebhfaaGreatDoorKGnO
import Derived.StillTailTactics
import Derived.Test.YtbfoonfbhebhfaaGreatDoorKGnK
import Derived.Test.YtbfoonfbhebhfaaGreatDoorKGnL
namespace Go.Proofs.YtbfoonfbhebhfaaGreatDoor
open Go.RowKit Plain
def leB (x y : ByteArray) : Bool := (Op.bytesLess x.toList y.toList || x.toList == y.toList)
def ltS (a b : ByteArray) : Prop := leB b a = false
def TOk (l : List MN) : Prop := l.length ≤ 64 ∧ (∀ m ∈ l, NOk m) ∧ ∀ i (h : i + 1 < l.length), ltS (l[i]'(by omega)).1 l[i + 1].1
theorem TOk.snoc {l : List MN} {i : Nat} (h : TOk (l.take i)) (h64 : l.length ≤ 64) (hi : i < l.length) (hp : NOk l[i]) (hc : ∀ j (e : i = j + 1), ltS (l[j]'(by omega)).1 l[i].1) : TOk (l.take (i + 1)) := by
 obtain ⟨_, h2, h3⟩ := h
 refine ⟨by rw [List.length_take]; omega, fun p hm => ?_, fun j hj => ?_⟩
 ·
  rw [List.take_succ_eq_append_getElem hi] at hm
  rcases List.mem_append.1 hm with hm | hm
  ·
   exact h2 p hm
  ·
   simp only [List.mem_singleton] at hm; subst hm; exact hp
 ·
  rw [List.length_take] at hj
  rw [List.getElem_take, List.getElem_take]
  by_cases e : j + 1 = i
  ·
   subst e
   exact hc j rfl
  ·
   have := h3 j (by rw [List.length_take]; omega)
   rwa [List.getElem_take, List.getElem_take] at this
def TckEnd (w0 : World) (l : List MN) (e : Ending) (w : World) : Prop := ∃ c : Int, e = .returned (.int .i64 c) ∧ (c = 0 ↔ TOk l) ∧ Below w0.heap.size w0 w
set_option maxRecDepth 100000 in
set_option maxHeartbeats 4000000 in
theorem tcheck_any (a : Option Addr) (cap : Nat) (l : List MN) (w : World) (h : SAt 7 mnC w a l) (hl : l.length ≤ 9223372036854775807) (hz : ∀ m ∈ l, MZ m) (hT : Tabs w) :
  Calls Tryz.prog 99 #[.slice a l.length cap] w (TckEnd w l) := by
 have HS := Lib.hid h
 have HZ := Lib.hid hz
 have HT := Lib.hid hT
 have HNC := Lib.hid fun s u hs hu => ncheck_any s u hs hu
 clear h hz hT
 by_cases h64 : l.length ≤ 64
 ·
  have f1 : decide ((l.length : Int) > 64) = false := decide_eq_false (by omega)
  go_enter Tryz.func99, Tryz.ntmps99
  go_wp2_with fail
  go_loopw [11] (fun iv wr => ∃ i : Nat, i ≤ l.length ∧ iv = .int .i64 (i : Int) ∧ Below w.heap.size w wr ∧ TOk (l.take i)) (fun iv _ => l.length - (intOf iv).toNat)
  case atStart => exact ⟨0, by omega, rfl, Below.refl _ _, by simp [TOk]⟩
  case round =>
   obtain ⟨i, hi, rfl, hbr, hok⟩ := hrel
   have HBR := Lib.hid hbr
   have HOK := Lib.hid hok
   clear hbr hok
   by_cases hil : i < l.length
   ·
    have m1 : (i : Int) < (l.length : Int) := by omega
    obtain ⟨p, hp⟩ : ∃ p, l[i] = p := ⟨_, rfl⟩
    obtain ⟨g, off, rfl, hg, k0, k1, k2, k3, k4, k5, k6⟩ := (HS.out.below HBR.out).node i hil p hp
    have HMEM : Hid (p ∈ l) := by show _ ∈ _; rw [← hp]; exact List.getElem_mem hil
    have HPE := Lib.hid hp
    clear hp hg
    obtain ⟨n, k, md, tm, sz, ⟨pa, pc, ps⟩, lk⟩ := p
    simp only at k0 k1 k2 k3 k4 k5 k6
    obtain ⟨mz1, mz2, mz3, _⟩ := HZ.out _ HMEM.out
    simp only at mz1 mz2 mz3
    have HB1 := Lib.hid (HBR.out.alloc HBR.out.size (.cells #[.string n, .int .i64 k, .int .i64 md, .int .i64 tm, .int .i64 sz, .slice pa ps.length pc, .string lk] 120))
    have HCK := Lib.hid (HNC.out n (wr.alloc (.cells #[.string n, .int .i64 k, .int .i64 md, .int .i64 tm, .int .i64 sz, .slice pa ps.length pc, .string lk] 120)) mz1 (HT.out.below HB1.out))
    have HKN := Lib.hid fun u => tknown_any k u
    go_wp2_with fail
    refine HCK.out.mono ?_
    rintro e w2 ⟨rfl, hb2⟩
    have HB2 := Lib.hid (Below.step HB1.out hb2)
    have HR2 : Hid (w2.heap[wr.heap.size]? = some (.cells #[.string n, .int .i64 k, .int .i64 md, .int .i64 tm, .int .i64 sz, .slice pa ps.length pc, .string lk] 120 (0, 0))) := (hb2.block _ (by simp)).trans (heap_alloc_new wr _)
    have x0 := cell_of_row _ _ 0 _ _ _ HR2.out
    have x1 := cell_of_row _ _ 1 _ _ _ HR2.out
    have x2 := cell_of_row _ _ 2 _ _ _ HR2.out
    have x3 := cell_of_row _ _ 3 _ _ _ HR2.out
    have x4 := cell_of_row _ _ 4 _ _ _ HR2.out
    have x5 := cell_of_row _ _ 5 _ _ _ HR2.out
    have x6 := cell_of_row _ _ 6 _ _ _ HR2.out
    simp only [List.getElem?_toArray, List.getElem?_cons_zero, List.getElem?_cons_succ] at x0 x1 x2 x3 x4 x5 x6
    clear hb2 k0 k1 k2 k3 k4 k5 k6 HCK
    obtain ⟨cc, hcc⟩ : ∃ cc, chkB n = cc := ⟨_, rfl⟩
    rw [hcc]
    by_cases hc0 : cc = 0
    ·
     have HC0 : Hid (chkB n = 0) := hcc.trans hc0
     subst hc0
     clear hcc
     by_cases b0 : md < 0
     ·
      have HN : Hid (¬ TOk l) := fun h => by
       have h2 := h.2.1 _ HMEM.out
       simp only [NOk] at h2
       omega
      go_wp2_with fail
      go_ret
      exact ⟨1, rfl, by simp [HN.out], HB2.out⟩
     ·
      skip
      by_cases b1 : 511 < md
      ·
       have HN : Hid (¬ TOk l) := fun h => by
        have h2 := h.2.1 _ HMEM.out
        simp only [NOk] at h2
        omega
       go_wp2_with fail
       go_ret
       exact ⟨1, rfl, by simp [HN.out], HB2.out⟩
      ·
       skip
       by_cases b2 : sz < 0
       ·
        have HN : Hid (¬ TOk l) := fun h => by
         have h2 := h.2.1 _ HMEM.out
         simp only [NOk] at h2
         omega
        go_wp2_with fail
        go_ret
        exact ⟨1, rfl, by simp [HN.out], HB2.out⟩
       ·
        skip
        by_cases b3 : 4096 < sz
        ·
         have HN : Hid (¬ TOk l) := fun h => by
          have h2 := h.2.1 _ HMEM.out
          simp only [NOk] at h2
          omega
         go_wp2_with fail
         go_ret
         exact ⟨1, rfl, by simp [HN.out], HB2.out⟩
        ·
         skip
         by_cases b4 : (300 : Int) < (ps.length : Int)
         ·
          have HN : Hid (¬ TOk l) := fun h => by
           have h2 := h.2.1 _ HMEM.out
           simp only [NOk] at h2
           omega
          go_wp2_with fail
          go_ret
          exact ⟨1, rfl, by simp [HN.out], HB2.out⟩
         ·
          skip
          cases hkn : knd k with
          | false =>
           have HN : Hid (¬ TOk l) := fun h => by
            have h2 := (h.2.1 _ HMEM.out).2.2.2.2.1
            rw [show knd k = true from h2] at hkn
            cases hkn
           rw [hkn] at HKN
           clear hkn
           go_wp2_with fail
           refine (HKN.out _).mono ?_
           rintro e w3 ⟨rfl, rfl⟩
           go_wp2_with fail
           go_ret
           exact ⟨5, rfl, by simp [HN.out], HB2.out⟩
          | true =>
           have HKT := Lib.hid hkn
           rw [hkn] at HKN
           clear hkn
           go_wp2_with fail
           refine (HKN.out _).mono ?_
           rintro e w3 ⟨rfl, rfl⟩
           obtain ⟨fb, hfb⟩ : ∃ fb, fb = fmd (n, k, md, tm, sz, (pa, pc, ps), lk) := ⟨_, rfl⟩
           have HFM := Lib.hid fun u => formed_any n k md tm sz pa ps.length pc lk fb hfb u
           have HFB := Lib.hid hfb
           clear hfb
           go_wp2_with fail
           refine (HFM.out _).mono ?_
           rintro e w4 ⟨rfl, hb4⟩
           have HB4 := Lib.hid (Below.step HB2.out hb4)
           have HR4 := Lib.hid ((hb4.block _ (lt_of_block HR2.out)).trans HR2.out)
           have y0 := cell_of_row _ _ 0 _ _ _ HR4.out
           have y6 := cell_of_row _ _ 6 _ _ _ HR4.out
           simp only [List.getElem?_toArray, List.getElem?_cons_zero, List.getElem?_cons_succ] at y0 y6
           clear hb4 x0 x1 x2 x3 x4 x5 x6
           cases fb with
           | false =>
            have HN : Hid (¬ TOk l) := fun h => by
             have h2 := (h.2.1 _ HMEM.out).2.2.2.2.2.1
             rw [← HFB.out] at h2
             cases h2
            go_wp2_with fail
            go_ret
            exact ⟨4, rfl, by simp [HN.out], HB4.out⟩
           | true =>
            by_cases bl : lk.size ≤ 1024
            ·
             have g9 : decide ((lk.size : Int) > 1024) = false := decide_eq_false (by omega)
             have HNK : Hid (NOk (n, k, md, tm, sz, (pa, pc, ps), lk)) := ⟨HC0.out, ⟨by show 0 ≤ md; omega, by show md ≤ 511; omega⟩, ⟨by show 0 ≤ sz; omega, by show sz ≤ 4096; omega⟩, by show ps.length ≤ 300; omega, HKT.out, HFB.out.symm, bl⟩
             clear bl
             cases i with
             | zero =>
              have HNX : Hid (TOk (l.take (0 + 1))) := TOk.snoc HOK.out h64 hil (by rw [HPE.out]; exact HNK.out) (fun j e => by omega)
              go_wp2_with fail
              go_region
              go_wp2_with fail
              go_roundw
              case rel => exact ⟨1, by omega, by go_num, HB4.out.drew, HNX.out⟩
              case measure => simp [intOf]; omega
             | succ j =>
              obtain ⟨r, hr⟩ : ∃ r, l[j] = r := ⟨_, rfl⟩
              obtain ⟨g', off', e', _, z0, _, _, _, _, _, _⟩ := (HS.out.below HB4.out).node j (by omega) r hr
              injection e' with e'
              injection e' with e1 e2 _
              subst e1 e2
              have HRE := Lib.hid hr
              have hwr : IntKind.i64.wrap (j : Int) = (j : Int) := wraps_i64 _ (by omega) (by omega)
              have m4 : (j : Int) < (l.length : Int) := by omega
              have m3 : ((j : Int) + 1 > 0) := by omega
              have f3 : decide ((j : Int) + 1 > 0) = true := decide_eq_true m3
              have z0' : w4.drew.cell? ⟨g, off + j * 7, none⟩ = some (.string r.1) := z0
              have y0' : w4.drew.cell? ⟨wr.heap.size, 0, none⟩ = some (.string n) := y0
              have HLT1 : Hid (leB n r.1 = false → TOk (l.take (j + 1 + 1))) := fun h => TOk.snoc HOK.out h64 hil (by rw [HPE.out]; exact HNK.out) (fun j' e => by
               obtain rfl : j = j' := by omega
               simp only [HPE.out, HRE.out]
               exact h)
              have HLT2 : Hid (leB n r.1 = true → ¬ TOk l) := fun h h' => by
               have := h'.2.2 j hil
               simp only [HPE.out, HRE.out, ltS] at this
               rw [h] at this
               cases this
              clear hr
              obtain ⟨rn, hrn⟩ : ∃ rn, r.1 = rn := ⟨_, rfl⟩
              rw [hrn] at z0' HLT1 HLT2
              clear hrn z0
              unfold leB at HLT1 HLT2
              cases hlb : (Op.bytesLess n.toList rn.toList || n.toList == rn.toList) with
              | false =>
               have HN := Lib.hid (HLT1.out hlb)
               clear HLT1 HLT2
               go_wp2_with fail
               go_region
               go_wp2_with fail
               go_roundw
               case rel => exact ⟨j + 1 + 1, by omega, by go_num, HB4.out.drew, HN.out⟩
               case measure => simp [intOf]; omega
              | true =>
               have HN := Lib.hid (HLT2.out hlb)
               clear HLT1 HLT2
               go_wp2_with fail
               go_region
               go_wp2_with fail
               go_ret
               exact ⟨4, rfl, by simp [HN.out], HB4.out.drew⟩
            ·
             have g9 : decide ((lk.size : Int) > 1024) = true := decide_eq_true (by omega)
             have HN : Hid (¬ TOk l) := fun h => bl (h.2.1 _ HMEM.out).2.2.2.2.2.2
             clear bl
             go_wp2_with fail
             go_ret
             exact ⟨2, rfl, by simp [HN.out], HB4.out⟩
    ·
     have f2 : (cc != 0) = true := by simpa using hc0
     have HN : Hid (¬ TOk l) := fun h => hc0 (hcc.symm.trans (h.2.1 _ HMEM.out).1)
     have HC0 := Lib.hid hc0
     clear hc0 hcc
     go_wp2_with fail
     go_ret
     exact ⟨cc, rfl, by simp [HN.out, HC0.out], HB2.out⟩
   ·
    have m1 : ¬ (i : Int) < (l.length : Int) := by omega
    have HN : Hid (TOk l) := by
     have h := HOK.out
     rwa [List.take_of_length_le (by omega)] at h
    go_wp2_with fail
    go_ret
    exact ⟨0, rfl, by simp [HN.out], HBR.out⟩
 ·
  have f1 : decide ((l.length : Int) > 64) = true := decide_eq_true (by omega)
  have HN : Hid (¬ TOk l) := fun h => h64 h.1
  clear h64
  go_enter Tryz.func99, Tryz.ntmps99
  go_wp2_with fail
  go_ret
  exact ⟨2, rfl, by simp [HN.out], Below.refl _ _⟩
end Go.Proofs.YtbfoonfbhebhfaaGreatDoor
namespace Go.Proofs.YtbfoonfbhebhfaaGreatDoor
open Go.RowKit Plain
def numS (n : Nat) : ByteArray := strOf ((strip (be8 n)).length :: strip (be8 n))
theorem numS_num (n : Nat) (h : n < 18446744073709551616) : Num n (strN (numS n)) := by
 have hd := digs_be8 n h
 have : Num n ((strip (be8 n)).length :: strip (be8 n)) := ⟨_, hd, rfl⟩
 unfold numS
 rw [strN_strOf _ this.lt]
 exact this
theorem putD_any (n : Nat) (hn : n < 18446744073709551616) (w : World) : Calls Tryz.prog 108 #[.int .u64 (n : Int)] w fun e w' => e = .returned (.string (numS n)) ∧ Below w.heap.size w w' := by
 refine (put_any n hn w).mono ?_
 rintro e w' ⟨s, hs, rfl, hb⟩
 have : s = numS n := by
  rw [← strOf_strN s, ← strOf_strN (numS n), hs.unique (numS_num n hn)]
 rw [this]
 exact ⟨rfl, hb⟩
theorem numS_size (n : Nat) (h : n < 18446744073709551616) : (numS n).size ≤ 9 := by
 have := (numS_num n h).length.2
 rwa [strN_length] at this
theorem strN_add (x y : ByteArray) : strN (x ++ y) = strN x ++ strN y := by simp [strN]
theorem size_add (x y : ByteArray) : (x ++ y).size = x.size + y.size := by simp
theorem conv_front {l : List Nat} {r : List Value} {w : World} {B : Nat} {t : TypeId} (hl : ∀ c ∈ l, c < 256) (h : w.heap[B]? = some (.cells (l.map bV ++ r).toArray t (0, 0))) (cap : Nat) :
  (convert 115 9 (.slice (some ⟨B, 0, none⟩) l.length cap)).run Tryz.prog w = .ok (.string (strOf l)) w := by
 have hb : Lib.Bytes w B 0 (strOf l) := by
  intro i hi
  rw [strOf_size] at hi
  rw [Nat.zero_add, cell_of_row _ _ _ _ _ _ h, List.getElem?_toArray, List.getElem?_append_left (by simpa using hi), List.getElem?_map, List.getElem?_eq_getElem hi]
  have := byte_at' (strOf l) i (by rw [strOf_size]; exact hi)
  rw [this, strN_strOf _ hl, List.getD_eq_getElem?_getD, List.getElem?_eq_getElem hi]
  rfl
 have := Lib.run_convert_whole (P := Tryz.prog) w 115 5 9 Tryz.underlying115 Tryz.underlying5 Tryz.underlying9 B 0 (strOf l) hb cap
 rwa [strOf_size] at this
def MaxC (w : World) : Prop := ∃ m : Int, w.cell? ⟨1, 0, none⟩ = some (.int .i64 m)
theorem MaxC.below {w w' : World} (h : MaxC w) (hb : Below w.heap.size w w') : MaxC w' := by
 obtain ⟨m, hm⟩ := h
 have hlt : 1 < w.heap.size := by
  rcases Nat.lt_or_ge 1 w.heap.size with h | h
  ·
   exact h
  ·
   rw [World.cell?, Array.getElem?_eq_none h] at hm; cases hm
 exact ⟨m, (hb.cell (p := ⟨1, 0, none⟩) hlt).trans hm⟩
theorem putTextM (s : ByteArray) (hs : s.size ≤ 9223372036854775807) (w : World) (hm : MaxC w) : Calls Tryz.prog 109 #[.string s] w (PutTEnd w s) := by
 obtain ⟨m, hm⟩ := hm
 exact putText_any s m w hs hm
theorem putT_length (l : List Nat) : (putT l).length ≤ 2 * l.length + 2 := by
 have h2 : ∀ l : List Nat, (esc l).length ≤ 2 * l.length := by
  intro l
  induction l with
  | nil => simp [esc]
  | cons a l ih => cases a <;> simp only [esc, List.length_cons] <;> omega
 have := h2 l
 simp only [putT, List.length_append, List.length_cons, List.length_nil]
 omega
end Go.Proofs.YtbfoonfbhebhfaaGreatDoor
