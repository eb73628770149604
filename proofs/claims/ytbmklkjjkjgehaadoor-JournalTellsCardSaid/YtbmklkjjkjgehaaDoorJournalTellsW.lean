/- JournalTells: its walk. -/
import Derived.Test.YtbmklkjjkjgehaaDoorJournalTornW
namespace Go.Proofs.YtbmklkjjkjgehaaDoor
open Go.RowKit Plain
/-- records that differ in one byte have different digests -/
theorem idf_apart (l : List Nat) (j v : Nat) (hl : ∀ c ∈ l, c < 256) (hj : j < l.length) (hv : v < 256) (hne : l.getD j 0 ≠ v) (h4 : l.length ≤ 4200) : idf (l.set j v) ≠ idf l := by
  intro e
  have e1 := be8_inj (hsum_lt _) (hsum_lt _) e
  have e2 := hsum_apart (j / 8) (l.set j v) l (fun c hc => by
    rcases List.mem_or_eq_of_mem_set hc with h | rfl
    · exact hl c h
    · exact hv) hl (by rw [List.length_set]) (by rw [List.length_set, m64]; omega) (take_set_le _ _ _ _ (by omega)) (drop_set_lt _ _ _ _ (by omega)) e1
  apply hne
  rw [← e2, List.getD_eq_getElem?_getD, List.getElem?_set_self hj]
  rfl
theorem frms_count {l : List (List Nat)} {t : List Nat} (h : Frms idf l t) : l.length ≤ t.length := by
  induction h with
  | nil => simp
  | snoc h1 h2 ih =>
    rw [List.length_append, List.length_append, List.length_singleton]
    have := h2.length idf_length
    omega
/-- the records ahead of one -/
theorem all_pre (pa : Option Addr) (pc : Nat) (l : List ByteArray) (t : ByteArray) (ht : Frms idf (l.map strN) (strN t)) (hs : t.size ≤ 65536) (r : Nat) (hr : r < l.length) (hn : l.length ≤ 9223372036854775807) (hy : ∀ y ∈ l, y.size ≤ 9223372036854775807) (u : World) (hl : SAt 1 sC u pa l) :
    Calls Tryd.prog 12 #[.slice pa r pc] u fun e w => ∃ t1 : ByteArray, Frms idf ((l.take r).map strN) (strN t1) ∧ t1.size ≤ 65536 ∧ e = .returned (.tuple #[.string t1, .int .i64 0]) ∧ Below u.heap.size u w := by
  have h := all_any pa pc (l.take r) u (SAt.pre (m := l.drop r) (by rw [List.take_append_drop]; exact hl)) (by rw [List.length_take]; omega) (fun y hy2 => hy y (List.mem_of_mem_take hy2))
  rw [List.length_take, Nat.min_eq_left (by omega)] at h
  refine h.mono ?_
  rintro e w ⟨⟨t1, h1, h2, rfl⟩ | ⟨c, _, hbad, _⟩, hb⟩
  · exact ⟨t1, h1, h2, rfl, hb⟩
  · refine absurd ?_ hbad
    rw [← List.take_append_drop r l, List.map_append] at ht
    obtain ⟨x, y, hx, _, e2⟩ := ht.cutAt
    refine ⟨x, hx, ?_⟩
    have := congrArg List.length e2
    rw [strN_length, List.length_append] at this
    omega
/-- one byte changed -/
theorem scan_changed (l : List ByteArray) (t : ByteArray) (ht : Frms idf (l.map strN) (strN t)) (hs : t.size ≤ 65536) (r : Nat) (hr : r < l.length) (t1 f : ByteArray) (h1 : Frms idf ((l.take r).map strN) (strN t1)) (hf : Frm idf (strN l[r]) (strN f)) (x : Nat) (hx : x < l[r].size + 8) :
    l[r].size + 9 ≤ f.size ∧ t1.size + f.size ≤ t.size ∧ ∀ v, v < 256 → (strN t).getD (t1.size + (f.size - (l[r].size + 8)) + x) 0 ≠ v → ∀ u, Calls Tryd.prog 13 #[.string (strOf ((strN t).set (t1.size + (f.size - (l[r].size + 8)) + x) v))] u fun e w => ∃ (a : Option Addr) (c : Nat), r ≤ c ∧ e = .returned (.tuple #[.slice a r c, .int .i64 (t1.size : Int)]) ∧ SAt 1 sC w a (l.take r) ∧ Below u.heap.size u w := by
  have hfl := hf.length idf_length
  rw [strN_length, strN_length] at hfl
  have hsp := ht
  rw [← List.take_append_drop r l, List.map_append, List.drop_eq_getElem_cons hr, List.map_cons] at hsp
  obtain ⟨a, b, ha, hb, e1⟩ := hsp.cutAt
  obtain ⟨f', b', hf', _, e2⟩ := hb.split
  obtain rfl := hf'.unique hf
  obtain rfl := ha.unique h1
  subst e2
  have hz : t1.size + f.size ≤ t.size := by
    have := congrArg List.length e1
    rw [strN_length, List.length_append, List.length_append, strN_length, strN_length] at this
    omega
  refine ⟨hfl, hz, fun v hv hne u => ?_⟩
  obtain ⟨h4, p, hp, e3⟩ := hf
  have hpl : f.size = p.length + l[r].size + 8 := by
    have := congrArg List.length e3
    rw [strN_length, List.length_append, List.length_append, strN_length, idf_length] at this
    exact this
  have hj : f.size - (l[r].size + 8) = p.length := by omega
  rw [hj] at hne ⊢
  have e4 : (strN t).set (t1.size + p.length + x) v = strN t1 ++ ((strN f).set (p.length + x) v ++ b') := by
    rw [e1, List.set_append, if_neg (by rw [strN_length]; omega), List.set_append, strN_length, if_pos (by rw [strN_length]; omega)]
    congr 3
    omega
  have e5 : (strN f).getD (p.length + x) 0 ≠ v := by
    intro e
    apply hne
    rw [e1, List.getD_eq_getElem?_getD, List.getElem?_append_right (by rw [strN_length]; omega), strN_length, show t1.size + p.length + x - t1.size = p.length + x by omega, List.getElem?_append_left (by rw [strN_length]; omega), ← List.getD_eq_getElem?_getD]
    exact e
  have hst := stepF_changed (idf := idf) idf_length idf_apart (strN_lt l[r]) h4 hp e3 (j := p.length + x) (v := v) (by omega) (by rw [strN_length]; omega) hv e5 b'
  have hsc := h1.scan idf_length (.stop hst)
  rw [← e4] at hsc
  have hlt : ∀ c ∈ (strN t).set (t1.size + p.length + x) v, c < 256 := fun c hc => by
    rcases List.mem_or_eq_of_mem_set hc with h | rfl
    · exact strN_lt t c h
    · exact hv
  have hLl : ((strN t).set (t1.size + p.length + x) v).length = t.size := by rw [List.length_set, strN_length]
  generalize (strN t).set (t1.size + p.length + x) v = L at *
  refine (scan_any (strOf L) u (by rw [strOf_size, hLl]; omega)).mono ?_
  rintro e w ⟨rs, p', aa, c, hsc2, hp', hr', rfl, hown, hb⟩
  rw [strN_strOf _ hlt] at hsc2
  obtain ⟨g1, g2⟩ := hsc2.unique hsc
  obtain rfl : rs = l.take r := strs_injJ (by rw [g1, List.append_nil])
  rw [strN_length, Nat.add_zero] at g2
  subst g2
  obtain ⟨a', c', hv', h3, _, hsat⟩ := SAt.own hown sC_length
  cases hv'
  have hlen : (l.take r).length = r := by rw [List.length_take, Nat.min_eq_left (by omega)]
  rw [hlen] at h3 ⊢
  exact ⟨aa, c, h3, rfl, hsat, hb⟩
set_option maxRecDepth 100000 in
set_option maxHeartbeats 2000000 in
theorem journalTells_any (pa : Option Addr) (pc : Nat) (l : List ByteArray) (k at_ : Int) (bi : Nat) (w : World) (hl : SAt 1 sC w pa l) (hn : l.length ≤ 9223372036854775807) (hcap : l.length ≤ pc) (hs : ∀ y ∈ l, y.size ≤ 9223372036854775807) (hbi : bi < 256) :
    Calls Tryd.prog 6 #[.slice pa l.length pc, .int .i64 k, .int .i64 at_, .int .u8 (bi : Int)] w fun e w' => e = .returned (.bool true) ∧ Below w.heap.size w w' := by
  have HL := Lib.hid hl
  have HY := Lib.hid hs
  have HFA := Lib.hid frame_a
  have HALL : Hid (∀ u, Below w.heap.size w u → Calls Tryd.prog 12 #[.slice pa l.length pc] u (AllEnd u l)) := fun u hu => all_any pa pc l u (hl.below hu) (by omega) hs
  clear hs hl
  go_enter Tryd.func6, Tryd.ntmps6
  go_wp2_with fail
  refine (HFA.out _).mono ?_
  rintro e w1 ⟨f, hf11, rfl, hb1⟩
  have B1 := Lib.hid hb1
  clear hb1 HFA
  go_wp2_with fail
  refine (HALL.out _ B1.out).mono ?_
  rintro e w2 ⟨⟨t, hfr, ht, rfl⟩ | ⟨c, hc0, _, rfl⟩, hb2⟩
  · have B2 := Lib.hid (Below.step B1.out hb2)
    have HFR := Lib.hid hfr
    have hl6 : l.length ≤ 65536 := by have := frms_count hfr; rw [List.length_map, strN_length] at this; omega
    have HOK : Hid (∀ k (h : k < l.length), l[k].size ≤ 4096) := fun k h => AllOk.small ⟨strN t, hfr, by rw [strN_length]; exact ht⟩ k h
    clear hfr hb2 HALL B1 hf11
    by_cases hl0 : l.length = 0
    · have f1 : ((l.length : Int) == 0) = true := by rw [beq_iff_eq]; omega
      clear hl0
      go_wp2_with fail
      go_ret
      exact ⟨rfl, B2.out⟩
    · have f1 : ((l.length : Int) == 0) = false := by rw [beq_eq_false_iff_ne]; omega
      by_cases hb0 : bi = 0
      · have f2 : ((bi : Int) == 0) = true := by rw [beq_iff_eq]; omega
        clear hl0 hb0
        go_wp2_with fail
        go_ret
        exact ⟨rfl, B2.out⟩
      · have f2 : ((bi : Int) == 0) = false := by rw [beq_eq_false_iff_ne]; omega
        have HRest := Lib.hid fun u => rest_any k (l.length : Int) u (by omega) (by omega)
        have HB0 := Lib.hid hb0
        clear hl0 hb0
        go_wp2_with fail
        refine (HRest.out _).mono ?_
        rintro e w3 ⟨⟨r, hr, rfl⟩, rfl⟩
        have hr2 : r < l.length := by omega
        have r0 : (0 : Int) ≤ (r : Int) := Int.natCast_nonneg _
        have r1 : (r : Int) ≤ (pc : Int) := by omega
        have HPRE := Lib.hid (all_pre pa pc l t HFR.out ht r hr2 (by omega) HY.out w3 (HL.out.below B2.out))
        clear HRest
        go_wp2_with fail
        refine HPRE.out.mono ?_
        rintro e w4 ⟨t1, ht1, ht1s, rfl, hb4⟩
        have B4 := Lib.hid (Below.step B2.out hb4)
        obtain ⟨g, off, rfl, hcell⟩ := str_cell (HL.out.below B4.out) r hr2
        have hy4 := HOK.out r hr2
        have HF := Lib.hid (frame_of l[r] hy4)
        have HCH : Hid (∀ f, Frm idf (strN l[r]) (strN f) → ∀ x, x < l[r].size + 8 → l[r].size + 9 ≤ f.size ∧ t1.size + f.size ≤ t.size ∧ ∀ v, v < 256 → (strN t).getD (t1.size + (f.size - (l[r].size + 8)) + x) 0 ≠ v → ∀ u, Calls Tryd.prog 13 #[.string (strOf ((strN t).set (t1.size + (f.size - (l[r].size + 8)) + x) v))] u fun e w => ∃ (a : Option Addr) (c : Nat), r ≤ c ∧ e = .returned (.tuple #[.slice a r c, .int .i64 (t1.size : Int)]) ∧ SAt 1 sC w a (l.take r) ∧ Below u.heap.size u w) := fun f hf x hx => scan_changed l t HFR.out ht r hr2 t1 f ht1 hf x hx
        have hyc : w4.cell? ⟨g, off + r, none⟩ = some (.string l[r]) := hcell
        clear HPRE hb4 B2 HFR ht1 HOK hcell
        generalize l[r] = y at *
        go_wp2_with fail
        refine (HF.out _).mono ?_
        rintro e w5 ⟨f2, hf2, hf4, rfl, hb5⟩
        have B5 := Lib.hid (Below.step B4.out hb5)
        have HC2 := Lib.hid (HCH.out f2 hf2)
        have hgl : g < w4.heap.size := World.block_lt_of_cell? _ _ hyc
        have hyc5 : w5.cell? ⟨g, off + r, none⟩ = some (.string y) := (hb5.cell (p := ⟨g, off + r, none⟩) hgl).trans hyc
        have hrl : (r : Int) < (l.length : Int) := by omega
        obtain ⟨hA, hB, -⟩ := HC2.out 0 (by omega)
        have hconv := fun (wx : World) => Lib.run_convert_string_bytes (P := Tryd.prog) wx 9 42 5 t Tryd.underlying9 Tryd.underlying42 Tryd.underlying5
        have B6 := Lib.hid (Below.step B5.out (bytesWorld_below (w := w5) 5 t))
        have C6 := Lib.hid (crow_bytes w5 5 t)
        obtain ⟨Q, hQ⟩ : ∃ Q, Q = t1.size + f2.size := ⟨_, rfl⟩
        obtain ⟨Bd, hBd⟩ : ∃ Bd, Bd = y.size + 8 := ⟨_, rfl⟩
        obtain ⟨Z, hZ⟩ : ∃ Z, Z = t1.size + (f2.size - (y.size + 8)) := ⟨_, rfl⟩
        have e1 : (t1.size : Int) + (f2.size : Int) = (Q : Int) := by omega
        have e2 : (y.size : Int) + 8 = (Bd : Int) := by omega
        have e3 : (Q : Int) - (Bd : Int) = (Z : Int) := by omega
        have q1 : IntKind.i64.wrap (Q : Int) = (Q : Int) := wraps_i64 _ (by omega) (by omega)
        have q2 : IntKind.i64.wrap (Bd : Int) = (Bd : Int) := wraps_i64 _ (by omega) (by omega)
        have q3 : IntKind.i64.wrap (Z : Int) = (Z : Int) := wraps_i64 _ (by omega) (by omega)
        have HRest := Lib.hid fun u => rest_any at_ (Bd : Int) u (by omega) (by omega)
        have HZ := Lib.hid hZ
        have HQ := Lib.hid hQ
        have HBd := Lib.hid hBd
        have HTL : Hid (t.size ≤ 65536) := ht
        clear hf2 HCH hb5 HF hZ hQ hBd hyc B4
        go_wp2_with fail
        have hn50 : w.heap.size ≤ w5.heap.size := B5.out.size
        have hgn : g < w5.heap.size := World.block_lt_of_cell? _ _ hyc5
        clear hconv hyc5 e1 e2 e3 q1 q2 q3 r1
        generalize Lib.bytesWorld w5 5 t = w6 at *
        generalize grownCap w5 t.size 0 5 = cp at *
        have HB5 : Hid (Below w5.heap.size w5 w6 → True) := fun _ => trivial
        clear HB5
        generalize w5.heap.size = n5 at *
        refine (HRest.out _).mono ?_
        rintro e w7 ⟨⟨x, hx, rfl⟩, rfl⟩
        have hxb : x < Bd := by omega
        have hBd := HBd.out
        obtain ⟨-, -, hch⟩ := HC2.out x (by omega)
        obtain ⟨pl, hpl⟩ : ∃ pl, pl = Z + x := ⟨_, rfl⟩
        have hZ := HZ.out
        rw [← hZ, ← hpl] at hch
        have e4 : (Z : Int) + (x : Int) = (pl : Int) := by omega
        have hplt : pl < t.size := by omega
        have q4 : IntKind.i64.wrap (pl : Int) = (pl : Int) := wraps_i64 _ (by omega) (by omega)
        have p0 : (0 : Int) ≤ (pl : Int) := Int.natCast_nonneg _
        have p1 : (pl : Int) < (t.size : Int) := by omega
        have p2 : ¬ (pl : Int) < 0 := by omega
        have p3 : ¬ (t.size : Int) ≤ (pl : Int) := by omega
        have p4 : decide ((pl : Int) < 0) = false := decide_eq_false p2
        have p5 : decide ((t.size : Int) ≤ (pl : Int)) = false := decide_eq_false p3
        have hcell := C6.out.cell (k := pl) (by rw [strN_length]; exact hplt)
        have hfro := C6.out.frozen (k := pl) (by rw [strN_length]; exact hplt)
        have ho : (strN t).getD pl 0 < 256 := by
          rw [List.getD_eq_getElem?_getD, List.getElem?_eq_getElem (by rw [strN_length]; exact hplt)]
          exact strN_lt t _ (List.getElem_mem _)
        generalize hog : (strN t).getD pl 0 = o at *
        have hv : o ^^^ bi < 256 := Nat.xor_lt_two_pow (n := 8) ho hbi
        have hxor : bits .xor .u8 (o : Int) (bi : Int) = ((o ^^^ bi : Nat) : Int) := u8_xor_nat o bi ho hbi
        have hne : o ≠ o ^^^ bi := fun h => by
          have h2 : o ^^^ o = o ^^^ (o ^^^ bi) := congrArg (o ^^^ ·) h
          rw [← Nat.xor_assoc, Nat.xor_self, Nat.zero_xor] at h2
          exact HB0.out h2.symm
        have HSC0 := hch (o ^^^ bi) hv hne
        generalize o ^^^ bi = v at *
        have hL256 : ∀ c ∈ (strN t).set pl v, c < 256 := fun c hc => by
          rcases List.mem_or_eq_of_mem_set hc with h | rfl
          · exact strN_lt t c h
          · exact hv
        have hcv : (convert 42 9 (.slice (some ⟨n5, 0, none⟩) t.size cp)).run Tryd.prog (w7.setCell ⟨n5, pl, none⟩ (.int .u8 (v : Int))) = .ok (.string (strOf ((strN t).set pl v))) (w7.setCell ⟨n5, pl, none⟩ (.int .u8 (v : Int))) := by
          have h := Lib.run_convert_whole (P := Tryd.prog) (w7.setCell ⟨n5, pl, none⟩ (.int .u8 (v : Int))) 42 5 9 Tryd.underlying42 Tryd.underlying5 Tryd.underlying9 n5 0 (strOf ((strN t).set pl v)) ((C6.out.set pl v).bytes _ (strN_strOf _ hL256)) cp
          rw [strOf_size, List.length_set, strN_length] at h
          exact h
        generalize strOf ((strN t).set pl v) = X at hcv HSC0
        have HSC := Lib.hid HSC0
        have BW := Lib.hid (B6.out.setCell (p := ⟨n5, pl, none⟩) hn50 (.int .u8 (v : Int)))
        clear hx hxb hBd HC2 hch hpl hZ hog hne HSC0 hL256 HRest HZ HQ HBd C6 B6 hA hB HB0 ho hv
        go_wp2_with fail
        refine (HSC.out _).mono ?_
        rintro e w8 ⟨ra, rc, hrc, rfl, hsat, hb8⟩
        have B8 := Lib.hid (Below.step BW.out hb8)
        have HE := Lib.hid (eqStr_any ra (some ⟨g, off, none⟩) rc pc (l.take r) (l.take r) w8 hsat (SAt.pre (m := l.drop r) (by rw [List.take_append_drop]; exact HL.out.below B8.out)) (by rw [List.length_take]; omega) (by rw [List.length_take]; omega))
        rw [decide_eq_true rfl, List.length_take, Nat.min_eq_left (by omega)] at HE
        have r1 : (r : Int) ≤ (pc : Int) := by omega
        clear hsat hb8 HSC BW
        go_wp2_with fail
        refine HE.out.mono ?_
        rintro e w9 ⟨rfl, q, rfl⟩
        go_wp2_with fail
        go_ret
        exact ⟨rfl, below_dn B8.out _⟩
  · have B2 := Lib.hid (Below.step B1.out hb2)
    have f0 : ((c : Int) != 0) = true := by simpa using hc0
    clear hb2 HALL hc0
    go_wp2_with fail
    go_ret
    exact ⟨rfl, B2.out⟩
end Go.Proofs.YtbmklkjjkjgehaaDoor
