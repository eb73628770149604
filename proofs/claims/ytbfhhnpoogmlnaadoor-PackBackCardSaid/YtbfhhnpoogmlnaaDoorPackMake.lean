/- Pack: a pack made. Printed by wip/gen_packmake.py. -/
import Derived.Test.YtbfhhnpoogmlnaaDoorPackId
import Derived.Test.YtbfhhnpoogmlnaaDoorIdMap
import Derived.Test.YtbfhhnpoogmlnaaDoorPressPress
import Derived.Test.YtbfhhnpoogmlnaaDoorNumOut
import Derived.Test.YtbfhhnpoogmlnaaDoorBase3
namespace Go.Proofs.YtbfhhnpoogmlnaaDoor
open Go.RowKit Plain Go.ChangeMaps
set_option linter.unusedVariables false
set_option linter.unusedSimpArgs false
def entB (b : Bl) (P : ByteArray) : List Nat := b.1.toNat :: (pidL b ++ strN (numS P.size))
def entsB (l : List Bl) (ps : List ByteArray) : List Nat := (l.zip ps).flatMap fun x => entB x.1 x.2
def dirB (l : List Bl) (ps : List ByteArray) : List Nat := strN (numS l.length) ++ entsB l ps
def bodyB (ps : List ByteArray) : List Nat := ps.flatMap strN
/-- a pack's bytes ahead of its digest -/
def frontB (l : List Bl) (ps : List ByteArray) : List Nat := bodyB ps ++ dirB l ps ++ [(dirB l ps).length % 256, (dirB l ps).length / 256 % 256]
def packB (l : List Bl) (ps : List ByteArray) : List Nat := frontB l ps ++ be8 (hsum (frontB l ps))
/-- what Press makes of a string -/
def PrB (s t : ByteArray) : Prop := 1 ≤ t.size ∧ t.size ≤ 1 + s.size ∧ (strN t = 0 :: strN s ∨ ∃ r, strN t = 1 :: r ∧ PGood r (strN s))
def Prs : List Bl → List ByteArray → Prop
  | [], ps => ps = []
  | b :: l, ps => ∃ t r, ps = t :: r ∧ PrB b.2 t ∧ Prs l r
theorem Prs.snoc : ∀ {l : List Bl} {ps : List ByteArray} {b : Bl} {t : ByteArray}, Prs l ps → PrB b.2 t → Prs (l ++ [b]) (ps ++ [t])
  | [], ps, b, t, h, ht => by
    have : ps = [] := h
    subst this
    exact ⟨t, [], rfl, ht, rfl⟩
  | a :: l, ps, b, t, h, ht => by
    obtain ⟨q, r, rfl, hq, hr⟩ := h
    exact ⟨q, r ++ [t], rfl, hq, Prs.snoc hr ht⟩
theorem Prs.length : ∀ {l : List Bl} {ps : List ByteArray}, Prs l ps → ps.length = l.length
  | [], ps, h => by have : ps = [] := h; subst this; rfl
  | a :: l, ps, h => by
    obtain ⟨q, r, rfl, hq, hr⟩ := h
    rw [List.length_cons, List.length_cons, Prs.length hr]
theorem entsB_snoc {l : List Bl} {ps : List ByteArray} (h : ps.length = l.length) (b : Bl) (t : ByteArray) : entsB (l ++ [b]) (ps ++ [t]) = entsB l ps ++ entB b t := by
  unfold entsB
  rw [List.zip_append h.symm, List.flatMap_append]
  simp
theorem bodyB_snoc (ps : List ByteArray) (t : ByteArray) : bodyB (ps ++ [t]) = bodyB ps ++ strN t := by simp [bodyB]
structure Packd (l : List Bl) (ps : List ByteArray) : Prop where
  len : l.length ≤ 40
  ok : ∀ b ∈ l, pcode b = 0
  ids : (l.map pidL).Nodup
  pr : Prs l ps
def vBl (b : Bl) : Value := .agg (blC b).toArray
def esB (l : List Bl) : List (List Nat × Bl) := l.map fun b => (pidL b, b)
theorem esB_snoc (l : List Bl) (b : Bl) : esB (l ++ [b]) = esB l ++ [(pidL b, b)] := by simp [esB]
theorem esB_len (l : List Bl) : ∀ e ∈ esB l, e.1.length = 8 := by
  intro e he
  obtain ⟨b, _, rfl⟩ := List.mem_map.1 he
  exact pidL_length b
theorem ilk_esB {l : List Bl} {k : List Nat} (h : ilk (esB l) k = none) : k ∉ l.map pidL := by
  intro hm
  obtain ⟨b, hb, rfl⟩ := List.mem_map.1 hm
  exact ilk_none h b (List.mem_map.2 ⟨b, hb, rfl⟩)
theorem str_ne {s s2 : ByteArray} (h : s ≠ s2) : (s.toList == s2.toList) = false := by
  apply beq_eq_false_iff_ne.2
  intro e
  apply h
  rw [ByteArray.toList_eq, ByteArray.toList_eq] at e
  obtain ⟨⟨x⟩⟩ := s
  obtain ⟨⟨y⟩⟩ := s2
  exact congrArg (fun l => ByteArray.mk (Array.mk l)) e
/-- a list that may be packed -/
def GoodL (l : List Bl) : Prop := l.length ≤ 40 ∧ (∀ b ∈ l, pcode b = 0) ∧ (l.map pidL).Nodup
theorem bad_dup {l : List Bl} {i : Nat} {b c : Bl} (htk : l.take (i + 1) = l.take i ++ [b]) (h : ilk (esB (l.take i)) (pidL b) = some c) : ¬ GoodL l := by
  rintro ⟨_, _, hn⟩
  have h1 : ((l.take (i + 1)).map pidL).Nodup := by
    rw [List.map_take]
    exact hn.sublist (List.take_sublist _ _)
  rw [htk, List.map_append, List.nodup_append] at h1
  have h2 := ilk_mem h
  obtain ⟨q, hq, he⟩ := List.mem_map.1 h2
  injection he with he _
  exact h1.2.2 (pidL q) (List.mem_map.2 ⟨q, hq, rfl⟩) (pidL b) (by simp) he
theorem lt_of_block2 {w : World} {b : Nat} {o : Obj} (h : w.heap[b]? = some o) : b < w.heap.size := by
  rcases Nat.lt_or_ge b w.heap.size with h1 | h1
  · exact h1
  · rw [Array.getElem?_eq_none h1] at h; cases h
def MkEnd (l : List Bl) (w0 : World) (e : Ending) (w : World) : Prop := Below w0.heap.size w0 w ∧ ∃ (t : ByteArray) (c : Nat), e = .returned (.tuple #[.string t, .int .i64 (c : Int)]) ∧ ((c ≠ 0 ∧ t = ⟨#[]⟩ ∧ ¬ GoodL l) ∨ (c = 0 ∧ ∃ ps, Packd l ps ∧ strN t = packB l ps))
theorem MkEnd.bad {l : List Bl} {w0 w : World} {c : Nat} (hb : Below w0.heap.size w0 w) (hc : c ≠ 0) (hn : ¬ GoodL l) : MkEnd l w0 (.returned (.tuple #[.string ⟨#[]⟩, .int .i64 (c : Int)])) w := ⟨hb, ⟨#[]⟩, c, rfl, .inl ⟨hc, rfl, hn⟩⟩
theorem und_mapBl : Tryd.prog.underlying 136 = some (.map 49 28) := by kernel_rfl
theorem zero_bl (w : World) : (zeroValue 28).run Tryd.prog w = .ok (.agg #[.int .i64 0, .string ⟨#[]⟩]) w := by kernel_rfl
theorem numS_sizeP (n : Nat) (h : n < 18446744073709551616) : 1 ≤ (numS n).size ∧ (numS n).size ≤ 9 := by
  have := (numS_num n h).length
  rw [strN_length] at this
  exact this
theorem part_intP (xs : Array Value) (w : World) (off : Nat) (n : Int) (h : xs[off]? = some (.int .i64 n)) : (part 3 xs off).run Tryd.prog w = .ok (.int .i64 n) w := run_part_plain w (by kernel_rfl) h
theorem part_strP (xs : Array Value) (w : World) (off : Nat) (s : ByteArray) (h : xs[off]? = some (.string s)) : (part 9 xs off).run Tryd.prog w = .ok (.string s) w := run_part_plain w (by kernel_rfl) h
set_option maxRecDepth 100000 in
set_option maxHeartbeats 4000000 in
theorem eqIn_bl (d : Nat) (w : World) (k k2 : Int) (s s2 : ByteArray) : (Op.equalIn (d + 3) 28 (.agg #[.int .i64 k, .string s]) (.agg #[.int .i64 k2, .string s2])).run Tryd.prog w = .ok (decide ((k, s) = (k2, s2))) w := by
  have hu := Tryd.underlying28
  rw [run_equalIn_struct w (d + 2) 28 _ _ (by simp only [Program.fieldsOf, hu]) (by kernel_rfl)]
  simp only [Program.fieldsOf, hu]
  rw [eqFields_consP (by decide) (part_intP _ w 0 k rfl) (part_intP _ w 0 k2 rfl) (run_equalIn_int w (d + 1) _ .i64 .i64 _ _ Tryd.underlying3)]
  rw [eqFields_consP (by decide) (part_strP _ w 1 s rfl) (part_strP _ w 1 s2 rfl) (run_equalIn_string w (d + 1) _ _ _ Tryd.underlying9)]
  by_cases e1 : k = k2
  · by_cases e2 : s = s2
    · have : (s.toList == s2.toList) = true := by subst e2; simp
      simp [e1, this, Op.eqFields, e2]
    · have : (s.toList == s2.toList) = false := by
        apply beq_eq_false_iff_ne.2
        intro h
        apply e2
        rw [ByteArray.toList_eq, ByteArray.toList_eq] at h
        obtain ⟨⟨x⟩⟩ := s
        obtain ⟨⟨y⟩⟩ := s2
        exact congrArg (fun l => ByteArray.mk (Array.mk l)) h
      simp [e1, this, Op.eqFields, e2]
  · have : (k == k2) = false := beq_eq_false_iff_ne.2 e1
    simp [e1, this]
theorem eql_bl (w : World) (k k2 : Int) (s s2 : ByteArray) : (Op.equalIn 10000 28 (.agg #[.int .i64 k, .string s]) (.agg #[.int .i64 k2, .string s2])).run Tryd.prog w = .ok (decide ((k, s) = (k2, s2))) w := eqIn_bl 9997 w k k2 s s2
set_option maxRecDepth 100000 in
set_option maxHeartbeats 16000000 in
theorem make_any (a : Option Addr) (cap : Nat) (l : List Bl) (w : World) (h : SAt 2 blC w a l) (hl : l.length ≤ 9223372036854775807) :
    Calls Tryd.prog 40 #[.slice a l.length cap] w (MkEnd l w) := by
  have HS := Lib.hid h
  clear h
  by_cases hbig : 40 < l.length
  · have z1 : (40 : Int) < (l.length : Int) := by omega
    have HNG : Hid (¬ GoodL l) := fun h => by have := h.1; omega
    clear hbig
    go_enter Tryd.func40, Tryd.ntmps40
    go_wp2_with fail
    go_ret2
    exact MkEnd.bad (c := 2) (Below.refl _ _) (by decide) HNG.out
  · have z1 : ¬ (40 : Int) < (l.length : Int) := by omega
    have z41 : (l.length : Int) < 41 := by omega
    have HL40 : Hid (l.length ≤ 40) := by show _ ≤ _; omega
    have HPN := Lib.hid fun wx => putD_any l.length (by omega) wx
    have hmm := @run_makeMap Tryd.prog
    clear hbig
    go_enter Tryd.func40, Tryd.ntmps40
    go_wp2_with fail
    clear hmm
    refine (HPN.out _).mono ?_
    rintro e w1 ⟨rfl, hb1⟩
    have hm0 := heap_alloc_new w (.map #[] 0)
    have HM1 : Hid (w1.heap[w.heap.size]? = some (imO vBl (esB []))) := (hb1.block _ (lt_of_block2 hm0)).trans hm0
    have HB1 : Hid (Below w.heap.size w w1) := ((Below.refl w.heap.size w).alloc (Nat.le_refl _) (.map #[] 0)).trans (hb1.mono (by simp))
    have hnz := numS_sizeP l.length (by have := HL40.out; omega)
    obtain ⟨dn, hdn⟩ : ∃ dn, numS l.length = dn := ⟨_, rfl⟩
    rw [hdn] at hnz ⊢
    have HDN := Lib.hid hdn
    have HNZ := Lib.hid hnz
    clear hb1 hm0 hdn hnz HPN
    go_wp2_with fail
    go_loopw [5, 6, 27] (fun bv dv iv wr => ∃ (i : Nat) (ps : List ByteArray) (B D : ByteArray), bv = .string B ∧ dv = .string D ∧ iv = .int .i64 (i : Int) ∧ i ≤ l.length ∧ Hid (Prs (l.take i) ps) ∧ Hid (strN B = bodyB ps) ∧ Hid (strN D = strN dn ++ entsB (l.take i) ps) ∧ Hid (B.size ≤ 4097 * i) ∧ Hid (D.size ≤ 9 + 18 * i) ∧
      Hid (∀ b ∈ l.take i, pcode b = 0) ∧ Hid (((l.take i).map pidL).Nodup) ∧ Hid (wr.heap[w.heap.size]? = some (imO vBl (esB (l.take i)))) ∧ Hid (Below w.heap.size w wr)) (fun _ _ iv _ => l.length - (intOf iv).toNat)
    case atStart => exact ⟨0, [], ⟨#[]⟩, dn, rfl, rfl, rfl, Nat.zero_le _, Lib.hid rfl, Lib.hid rfl, Lib.hid (by simp [entsB]), Lib.hid (by decide), Lib.hid (by have := HNZ.out; show _ ≤ _; omega), Lib.hid (by simp), Lib.hid (by simp), HM1, HB1⟩
    case round =>
      obtain ⟨i, ps, B, D, rfl, rfl, rfl, hi, HPS, HBB, HDD, HBS, HDS, HOK, HND, HMR, HBR⟩ := hrel
      by_cases hlt : i < l.length
      · have m1 : (i : Int) < (l.length : Int) := by omega
        obtain ⟨g, off, rfl, hg, hr⟩ := (HS.out.below HBR.out) i hlt
        have htk : l.take (i + 1) = l.take i ++ [l[i]] := List.take_succ_eq_append_getElem hlt
        obtain ⟨⟨k, s⟩, hb⟩ : ∃ b : Bl, l[i] = b := ⟨_, rfl⟩
        rw [hb] at hr htk
        have HTK := Lib.hid htk
        have HMEM : Hid ((k, s) ∈ l) := hb ▸ List.getElem_mem hlt
        have r0 : wr.cell? ⟨g, off + i * 2, none⟩ = some (.int .i64 k) := hr 0 _ rfl
        have r1 : wr.cell? ⟨g, off + i * 2 + 1, none⟩ = some (.string s) := hr 1 _ rfl
        have HLT := Lib.hid hlt
        have zi : (i : Int) < 41 := by omega
        have hna := heap_alloc_new wr (.cells #[.int .i64 k, .string s] 28)
        have HNA := Lib.hid hna
        have HBA := Lib.hid (HBR.out.alloc HBR.out.size (.cells #[.int .i64 k, .string s] 28))
        have HML : Hid (w.heap.size < wr.heap.size) := lt_of_block2 HMR.out
        have HMA : Hid ((wr.alloc (.cells #[.int .i64 k, .string s] 28)).heap[w.heap.size]? = some (imO vBl (esB (l.take i)))) := (Below.heap_alloc wr _ _ HML.out).trans HMR.out
        have a0 := cell_of_row _ _ 0 _ _ _ hna
        have a1 := cell_of_row _ _ 1 _ _ _ hna
        simp only [List.getElem?_toArray, List.getElem?_cons_succ, List.getElem?_cons_zero] at a0 a1
        clear hb htk hr hg hna hlt
        go_wp2_with fail
        refine (pid_any (k, s) _).mono ?_
        rintro e w5 ⟨rfl, hb5⟩
        have hil := pidL_length (k, s)
        have hib := pidL_lt (k, s)
        obtain ⟨idl, hidl⟩ : ∃ idl, pidL (k, s) = idl := ⟨_, rfl⟩
        obtain ⟨pc, hpc⟩ : ∃ pc, pcode (k, s) = pc := ⟨_, rfl⟩
        rw [hidl] at hil hib ⊢
        rw [hpc]
        have HIL := Lib.hid hil
        have HIB8 := Lib.hid hib
        have HPI := Lib.hid hidl
        have HPC := Lib.hid hpc
        have hn5 := (hb5.block _ (lt_of_block HNA.out)).trans HNA.out
        have hm5 := (hb5.block _ (lt_of_block2 HMA.out)).trans HMA.out
        have hb5' := HBA.out.trans (hb5.mono HBA.out.size)
        have hz5 := heap_alloc_new w5 (.cells z8A 49)
        have HTH : Hid ((w5.alloc (.cells z8A 49)).there w5.heap.size 0 (bC idl).size) := there_idB hz5 rfl hil
        have HIB : Hid ((Tryd.prog.info? 49).map (·.size) = some (bC idl).size) := info_idB hil
        have HOB : Hid ((bC idl).all (·.oneCell') = true) := bC_oneP idl
        obtain ⟨w6, hw6⟩ : ∃ w6, (w5.alloc (.cells z8A 49)).setCells w5.heap.size 0 (bC idl).toList = w6 := ⟨_, rfl⟩
        have hid6 : w6.heap[w5.heap.size]? = some (.cells (bC idl) 49 (0, 0)) := by rw [← hw6]; exact row_idB hz5 rfl hil
        have hold : ∀ g, g < w5.heap.size → w6.heap[g]? = w5.heap[g]? := fun g hg => by
          rw [← hw6, heap_setCells_other _ _ (by omega) _ _ _]
          exact Below.heap_alloc w5 _ g hg
        have HW6 := Lib.hid hw6
        have HID6 := Lib.hid hid6
        have HN6 := Lib.hid ((hold _ (lt_of_block hn5)).trans hn5)
        have HM6 := Lib.hid ((hold _ (lt_of_block2 hm5)).trans hm5)
        have HB6 : Hid (Below w.heap.size w w6) := by
          show Below _ _ _
          rw [← hw6]
          exact below_setCells hb5'.size _ _ (hb5'.alloc hb5'.size _)
        have s6 : w5.heap.size < w6.heap.size := lt_of_block hid6
        have HNE : Hid (wr.heap.size ≠ w5.heap.size) := by have := lt_of_block hn5; show wr.heap.size ≠ _; omega
        have HGE : Hid (wr.heap.size ≤ w5.heap.size) := by have := lt_of_block hn5; show _ ≤ _; omega
        clear hb5 hb5' hz5 hid6 hold hil hib hidl hpc hw6 hn5 hm5 a0 a1
        by_cases hc : pc = 0
        · subst hc
          obtain ⟨⟨hk1, hk3⟩, hs4⟩ := pcode_zero HPC.out
          simp only at hk1 hk3 hs4
          obtain ⟨kn, rfl⟩ := Int.eq_ofNat_of_zero_le (show 0 ≤ k by omega)
          have t0 := cell_of_row _ _ 0 _ _ _ HN6.out
          have t1 := cell_of_row _ _ 1 _ _ _ HN6.out
          simp only [List.getElem?_toArray, List.getElem?_cons_succ, List.getElem?_cons_zero] at t0 t1
          have hlk := look_id2 vBl und_mapBl (zero_bl w6) HM6.out idl HIL.out (esB_len _)
          cases hq : ilk (esB (l.take i)) idl with
          | some ob =>
            obtain ⟨k2, s2⟩ := ob
            have HNG : Hid (¬ GoodL l) := bad_dup HTK.out (by rw [HPI.out]; exact hq)
            rw [hq] at hlk
            replace hlk : (Instr.lookup 136 (.map (some w.heap.size)) (.agg (bC idl)) true).run Tryd.prog w6 = .ok (.tuple #[.agg #[.int .i64 k2, .string s2], .bool true]) w6 := hlk
            have HB7 := Lib.hid (HB6.out.alloc HB6.out.size (.cells #[.int .i64 k2, .string s2] 28))
            have hn7 := (Below.heap_alloc w6 (.cells #[.int .i64 k2, .string s2] 28) _ (lt_of_block HN6.out)).trans HN6.out
            have o0 := cell_of_row _ _ 0 _ _ _ hn7
            have o1 := cell_of_row _ _ 1 _ _ _ hn7
            simp only [List.getElem?_toArray, List.getElem?_cons_succ, List.getElem?_cons_zero] at o0 o1
            clear hq hn7 hk1 hk3
            by_cases e1 : k2 = (kn : Int)
            · subst e1
              by_cases e2 : s2 = s
              · subst e2
                go_wp2_with (first | (with_reducible refine wpList_store_mid rfl 49 (.tmp 9) (.tmp 34) rfl w5.heap.size 0 (bC idl) rfl rfl HTH.out HIB.out HOB.out ?_; rw [HW6.out]) | (with_reducible refine wpList_load_row rfl 49 (.tmp 9) rfl w5.heap.size rfl 49 (bC idl) (0, 0) _ HID6.out Tryd.underlying49 rfl HIB.out ?_))
                go_ret2
                exact MkEnd.bad (c := 10) HB7.out (by decide) HNG.out
              · have z4 : (s2.toList == s.toList) = false := by
                  exact str_ne e2
                clear e2
                go_wp2_with (first | (with_reducible refine wpList_store_mid rfl 49 (.tmp 9) (.tmp 34) rfl w5.heap.size 0 (bC idl) rfl rfl HTH.out HIB.out HOB.out ?_; rw [HW6.out]) | (with_reducible refine wpList_load_row rfl 49 (.tmp 9) rfl w5.heap.size rfl 49 (bC idl) (0, 0) _ HID6.out Tryd.underlying49 rfl HIB.out ?_))
                go_ret2
                exact MkEnd.bad (c := 11) HB7.out (by decide) HNG.out
            · have z4 : (k2 == (kn : Int)) = false := beq_eq_false_iff_ne.2 e1
              clear e1
              go_wp2_with (first | (with_reducible refine wpList_store_mid rfl 49 (.tmp 9) (.tmp 34) rfl w5.heap.size 0 (bC idl) rfl rfl HTH.out HIB.out HOB.out ?_; rw [HW6.out]) | (with_reducible refine wpList_load_row rfl 49 (.tmp 9) rfl w5.heap.size rfl 49 (bC idl) (0, 0) _ HID6.out Tryd.underlying49 rfl HIB.out ?_))
              go_ret2
              exact MkEnd.bad (c := 11) HB7.out (by decide) HNG.out
          | none =>
            rw [hq] at hlk
            replace hlk : (Instr.lookup 136 (.map (some w.heap.size)) (.agg (bC idl)) true).run Tryd.prog w6 = .ok (.tuple #[.agg #[.int .i64 0, .string ⟨#[]⟩], .bool false]) w6 := hlk
            have HQ := Lib.hid hq
            have hm7 := (Below.heap_alloc w6 (.cells #[.int .i64 0, .string ⟨#[]⟩] 28) _ (lt_of_block2 HM6.out)).trans HM6.out
            have hi7 := (Below.heap_alloc w6 (.cells #[.int .i64 0, .string ⟨#[]⟩] 28) _ (lt_of_block HID6.out)).trans HID6.out
            have hn7 := (Below.heap_alloc w6 (.cells #[.int .i64 0, .string ⟨#[]⟩] 28) _ (lt_of_block HN6.out)).trans HN6.out
            have HI7 := Lib.hid hi7
            have o0 := cell_of_row _ _ 0 _ _ _ hn7
            have o1 := cell_of_row _ _ 1 _ _ _ hn7
            simp only [List.getElem?_toArray, List.getElem?_cons_succ, List.getElem?_cons_zero] at o0 o1
            have hput := put_id8 vBl und_mapBl hm7 idl ((kn : Int), s) HIL.out (esB_len _) hq
            replace hput : (Instr.mapUpdate 136 (.map (some w.heap.size)) (.agg (bC idl)) (.agg #[.int .i64 (kn : Int), .string s])).run Tryd.prog (w6.alloc (.cells #[.int .i64 0, .string ⟨#[]⟩] 28)) = .ok () (setBlock (w6.alloc (.cells #[.int .i64 0, .string ⟨#[]⟩] 28)) w.heap.size (imO vBl (esB (l.take i) ++ [(idl, ((kn : Int), s))]))) := hput
            have hes : esB (l.take i) ++ [(idl, ((kn : Int), s))] = esB (l.take (i + 1)) := by rw [HTK.out, esB_snoc, HPI.out]
            rw [hes] at hput
            have hm8 := setBlockI_same vBl hm7 (imO vBl (esB (l.take (i + 1))))
            have hb8 := below_setBlockI (HB6.out.alloc HB6.out.size (.cells #[.int .i64 0, .string ⟨#[]⟩] 28)) (Nat.le_refl _) (imO vBl (esB (l.take (i + 1))))
            have hi8 := (setBlockI_other (w := w6.alloc (.cells #[.int .i64 0, .string ⟨#[]⟩] 28)) (b := w.heap.size) (imO vBl (esB (l.take (i + 1)))) (i := w5.heap.size) (by have := HML.out; have := HNE.out; have := lt_of_block HN6.out; have := HB6.out.size; have h9 : wr.heap.size ≤ w5.heap.size := HGE.out; omega)).trans hi7
            have hn8 := (setBlockI_other (w := w6.alloc (.cells #[.int .i64 0, .string ⟨#[]⟩] 28)) (b := w.heap.size) (imO vBl (esB (l.take (i + 1)))) (i := wr.heap.size) (by have := HML.out; omega)).trans hn7
            obtain ⟨w8, hw8⟩ : ∃ w8, setBlock (w6.alloc (.cells #[.int .i64 0, .string ⟨#[]⟩] 28)) w.heap.size (imO vBl (esB (l.take (i + 1)))) = w8 := ⟨_, rfl⟩
            rw [hw8] at hput hm8 hb8 hi8 hn8
            have HM8 := Lib.hid hm8
            have HB8 := Lib.hid hb8
            have HI8 := Lib.hid hi8
            have HN8 := Lib.hid hn8
            have p0 := cell_of_row _ _ 0 _ _ _ hn8
            have p1 := cell_of_row _ _ 1 _ _ _ hn8
            simp only [List.getElem?_toArray, List.getElem?_cons_succ, List.getElem?_cons_zero] at p0 p1
            have HS4 := Lib.hid hs4
            have HK1 := Lib.hid hk1
            have HK3 := Lib.hid hk3
            clear hq hm7 hi7 hn7 hes hm8 hb8 hi8 hn8 hw8 hs4 hk1 hk3
            go_wp2_with (first | (with_reducible refine wpList_store_mid rfl 49 (.tmp 9) (.tmp 34) rfl w5.heap.size 0 (bC idl) rfl rfl HTH.out HIB.out HOB.out ?_; rw [HW6.out]) | (with_reducible refine wpList_load_row rfl 49 (.tmp 9) rfl w5.heap.size rfl 49 (bC idl) (0, 0) _ HID6.out Tryd.underlying49 rfl HIB.out ?_) | (with_reducible refine wpList_load_row rfl 49 (.tmp 9) rfl w5.heap.size rfl 49 (bC idl) (0, 0) _ HI7.out Tryd.underlying49 rfl HIB.out ?_))
            refine (press_any s _).mono ?_
            rintro e w9 ⟨hb9, ⟨hbig, _⟩ | ⟨hsz9, t, rfl, ht1, ht2, ht3⟩⟩
            · exfalso; have := HS4.out; omega
            · have hb9' := HB8.out.trans (hb9.mono HB8.out.size)
              have HB9 := Lib.hid hb9'
              have HM9 := Lib.hid ((hb9.block _ (lt_of_block2 HM8.out)).trans HM8.out)
              have HI9 := Lib.hid ((hb9.block _ (lt_of_block HI8.out)).trans HI8.out)
              have HN9 := Lib.hid ((hb9.block _ (lt_of_block HN8.out)).trans HN8.out)
              have HPRB : Hid (PrB s t) := ⟨ht1, ht2, ht3⟩
              have HPS2 : Hid (Prs (l.take (i + 1)) (ps ++ [t])) := by show Prs _ _; rw [HTK.out]; exact HPS.out.snoc HPRB.out
              have hpl := HPS.out.length
              have HBB2 : Hid (strN (B ++ t) = bodyB (ps ++ [t])) := by show _ = _; rw [strN_add, HBB.out, bodyB_snoc]
              have hs4 := HS4.out
              have hbs := HBS.out
              have hds := HDS.out
              have hli := HLT.out
              have hl4 := HL40.out
              have HBS2 : Hid ((B ++ t).size ≤ 4097 * (i + 1)) := by show _ ≤ _; rw [size_add]; omega
              have hnz := numS_sizeP t.size (by omega)
              have HDD2 : Hid (strN (D ++ (strOf [kn] ++ strOf idl ++ numS t.size)) = strN dn ++ entsB (l.take (i + 1)) (ps ++ [t])) := by
                show _ = _
                rw [HTK.out, entsB_snoc hpl, strN_add, HDD.out, strN_add, strN_add, strN_strOf [kn] (by intro c hc; rw [List.mem_singleton] at hc; have := HK3.out; omega), strN_strOf idl HIB8.out]
                unfold entB
                rw [HPI.out]
                simp
              have HDS2 : Hid ((D ++ (strOf [kn] ++ strOf idl ++ numS t.size)).size ≤ 9 + 18 * (i + 1)) := by show _ ≤ _; rw [size_add, size_add, size_add, strOf_size, strOf_size, HIL.out]; simp only [List.length_singleton]; omega
              have HOK2 : Hid (∀ b ∈ l.take (i + 1), pcode b = 0) := by
                show ∀ b ∈ l.take (i + 1), _
                rw [HTK.out]
                intro b hb
                rcases List.mem_append.1 hb with hb | hb
                · exact HOK.out b hb
                · rw [List.mem_singleton] at hb; subst hb; exact HPC.out
              have HND2 : Hid (((l.take (i + 1)).map pidL).Nodup) := by
                show List.Nodup _
                rw [HTK.out, List.map_append, List.nodup_append]
                refine ⟨HND.out, by simp, ?_⟩
                intro x hx y hy hxy
                simp only [List.map_cons, List.map_nil, List.mem_singleton] at hy
                subst hxy
                rw [hy, HPI.out] at hx
                exact ilk_esB HQ.out hx
              have zb : B.size + t.size ≤ 9223372036854775807 := by omega
              have q1 : (strOf [kn]).size = 1 := by rw [strOf_size]; rfl
              have q2 : (strOf idl).size = 8 := by rw [strOf_size]; exact HIL.out
              have y1 : (strOf [kn]).size + (strOf idl).size ≤ 9223372036854775807 := by omega
              have y2 : (strOf [kn]).size + (strOf idl).size + (numS t.size).size ≤ 9223372036854775807 := by omega
              have y3 : D.size + ((strOf [kn]).size + (strOf idl).size + (numS t.size).size) ≤ 9223372036854775807 := by omega
              have zk : (kn : Int) < 256 := by have := HK3.out; omega
              have zk0 : (0 : Int) ≤ (kn : Int) := Int.natCast_nonneg _
              have zt : (t.size : Int) < 4098 := by omega
              have HKC : Hid (∀ (wz : World) (g : Nat), wz.heap[g]? = some (.cells #[.int .u8 (kn : Int)] 5 (0, 0)) → (convert 92 9 (.slice (some ⟨g, 0, none⟩) 1 1)).run Tryd.prog wz = .ok (.string (strOf [kn])) wz) := fun wz g hz =>
                conv_front (l := [kn]) (r := []) (by intro c hc; rw [List.mem_singleton] at hc; have := HK3.out; omega) hz 1
              have HCV : Hid (∀ wz : World, wz.heap[w5.heap.size]? = some (.cells (bC idl) 49 (0, 0)) → (convert 92 9 (.slice (some ⟨w5.heap.size, 0, none⟩) 8 8)).run Tryd.prog wz = .ok (.string (strOf idl)) wz) := fun wz hz => by
                have := conv_front (l := idl) (r := []) (B := w5.heap.size) HIB8.out (by rw [List.append_nil]; exact hz) 8
                rw [HIL.out] at this
                exact this
              have wk8 : IntKind.u8.wrap (kn : Int) = (kn : Int) := by show (kn : Int) % 256 = _; omega
              have wt64 : IntKind.u64.wrap (t.size : Int) = (t.size : Int) := by rw [IntKind.wrap_u64]; omega
              have HP := Lib.hid fun u => putD_any t.size (by omega) u
              clear hsz9 hb9 hb9' ht1 ht2 ht3 hpl hs4 hbs hds hnz q1 q2 hlk hput t0 t1 o0 o1 p0 p1 hli hl4
              go_wp2_with fail
              refine wp_region_noPanic ?_
              refine wp_region_held_drew (S := fun w' => w'.heap[wr.heap.size]? = some (.cells #[.int .i64 (kn : Int), .string s] 28 (0, 0)) ∧ w'.heap[w5.heap.size]? = some (.cells (bC idl) 49 (0, 0)) ∧ w'.heap[w.heap.size]? = some (imO vBl (esB (l.take (i + 1)))) ∧ Below w.heap.size w w') (by kernel_rfl) ⟨HN9.out, HI9.out, HM9.out, HB9.out.drew⟩ (fun hS0 => ?_)
              have HS0 := Lib.hid hS0
              clear hS0
              refine take_val 0 (.string D) rfl (by kernel_rfl) (by kernel_rfl) (by kernel_rfl) (fun _ _ _ _ h => h) (by rfl) rfl (fun wz hS => by go_simp) HS0.out ?_
              try simp only [List.set_cons_zero, List.set_cons_succ]
              refine take_val 1 (.pointer (some ⟨wr.heap.size, 0, none⟩)) rfl (by kernel_rfl) (by kernel_rfl) (by kernel_rfl) (fun _ _ _ _ h => h) (by rfl) rfl (fun wz hS => by go_simp) HS0.out ?_
              try simp only [List.set_cons_zero, List.set_cons_succ]
              refine take_val 2 (.int .i64 (kn : Int)) rfl (by kernel_rfl) (by kernel_rfl) (by kernel_rfl) (fun _ _ _ _ h => h) (by rfl) rfl (fun wz hS => by have hz := cell_of_row _ _ 0 _ _ _ hS.1; simp only [List.getElem?_toArray, List.getElem?_cons_zero, List.getElem?_cons_succ] at hz; go_simp) HS0.out ?_
              try simp only [List.set_cons_zero, List.set_cons_succ]
              refine take_val 3 (.int .u8 (kn : Int)) rfl (by kernel_rfl) (by kernel_rfl) (by kernel_rfl) (fun _ _ _ _ h => h) (by rfl) rfl (fun wz hS => by go_simp) HS0.out ?_
              try simp only [List.set_cons_zero, List.set_cons_succ]
              refine take_val 6 (.slice (some ⟨w5.heap.size, 0, none⟩) 8 8) rfl (by kernel_rfl) (by kernel_rfl) (by kernel_rfl) (fun _ _ _ _ h => h) (by rfl) rfl (fun wz hS => by go_simp) HS0.out ?_
              try simp only [List.set_cons_zero, List.set_cons_succ]
              refine take_val 7 (.string (strOf idl)) rfl (by kernel_rfl) (by kernel_rfl) (by kernel_rfl) (fun _ _ _ _ h => h) (by rfl) rfl (fun wz hS => by exact conv_run rfl rfl (HCV.out wz hS.2.1)) HS0.out ?_
              try simp only [List.set_cons_zero, List.set_cons_succ]
              refine take_val 9 (.string t) rfl (by kernel_rfl) (by kernel_rfl) (by kernel_rfl) (fun _ _ _ _ h => h) (by rfl) rfl (fun wz hS => by go_simp) HS0.out ?_
              try simp only [List.set_cons_zero, List.set_cons_succ]
              refine take_val 10 (.int .i64 (t.size : Int)) rfl (by kernel_rfl) (by kernel_rfl) (by kernel_rfl) (fun _ _ _ _ h => h) (by rfl) rfl (fun wz hS => by go_simp) HS0.out ?_
              try simp only [List.set_cons_zero, List.set_cons_succ]
              refine take_val 11 (.int .u64 (t.size : Int)) rfl (by kernel_rfl) (by kernel_rfl) (by kernel_rfl) (fun _ _ _ _ h => h) (by rfl) rfl (fun wz hS => by go_simp) HS0.out ?_
              try simp only [List.set_cons_zero, List.set_cons_succ]
              refine wpAnyH_obls (γ := Nat) [4] (fun kx g w' => (kx = 4 → w'.heap[g]? = some (.cells #[.int .u8 (kn : Int)] 5 (0, 0)))) [65, 66, 69, 73, 74, 75, 6] (fun g => [.slice (some ⟨g, 0, none⟩) 1 1, .string (strOf [kn]), .string (strOf [kn] ++ strOf idl), .string (numS t.size), .string (strOf [kn] ++ strOf idl ++ numS t.size), .string (D ++ (strOf [kn] ++ strOf idl ++ numS t.size)), .string (D ++ (strOf [kn] ++ strOf idl ++ numS t.size))]) [4, 5, 8, 12, 13, 14, 15] 0 (by kernel_rfl) (by kernel_rfl) (by kernel_rfl) (by kernel_rfl) (by kernel_rfl) (by kernel_rfl) (by decide +kernel) (fun _ _ _ _ h => h) HS0.out ?_ ?_
              · skip
                refine .mk _ 65 [] (by kernel_rfl) rfl rfl (fun g => by kernel_rfl) (fun g u hS hB => ⟨u.heap.size, .slice (some ⟨u.heap.size, 0, none⟩) 1 1, u.alloc (.cells #[.int .u8 (kn : Int)] 5), by simp only [setAll, List.zip_cons_cons, List.zip_nil_right, List.foldl_cons, List.foldl_nil, List.set_cons_zero, List.set_cons_succ]; go_simp, by rfl, ⟨(Below.heap_alloc u _ _ (lt_of_block hS.1)).trans hS.1, (Below.heap_alloc u _ _ (lt_of_block hS.2.1)).trans hS.2.1, (Below.heap_alloc u _ _ (lt_of_block2 hS.2.2.1)).trans hS.2.2.1, hS.2.2.2.alloc hS.2.2.2.size _⟩, fun _ => heap_alloc_new u _, fun k hk hne _ => absurd (List.mem_singleton.1 hk) hne, fun t ht => (show Differ [65] _ _ by simp only [List.zip_cons_cons, List.zip_nil_right]; repeat (first | exact .nil | refine .same ?_ | refine .diff (by decide) ?_)).get _ _ rfl (fun _ _ => rfl) t ht⟩) ?_
                refine .val _ 66 (fun g => .string (strOf [kn])) rfl (by decide) rfl (fun g => by kernel_rfl) (fun g u hS hB => by simp only [setAll, List.zip_cons_cons, List.zip_nil_right, List.foldl_cons, List.foldl_nil, List.set_cons_zero, List.set_cons_succ]; exact conv_run rfl rfl (HKC.out u g (hB 4 (by decide) (by kernel_rfl) rfl))) (fun g => by kernel_rfl) ?_
                refine .val _ 69 (fun g => .string (strOf [kn] ++ strOf idl)) rfl (by decide) rfl (fun g => by kernel_rfl) (fun g u hS hB => by simp only [setAll, List.zip_cons_cons, List.zip_nil_right, List.foldl_cons, List.foldl_nil, List.set_cons_zero, List.set_cons_succ]; go_simp) (fun g => by kernel_rfl) ?_
                refine .call _ 73 (.string (numS t.size)) _ _ rfl (by decide) rfl (fun g => by kernel_rfl) (fun g u hS => by simp only [setAll, List.zip_cons_cons, List.zip_nil_right, List.foldl_cons, List.foldl_nil, List.set_cons_zero, List.set_cons_succ]; go_simp) (fun g u hS => (HP.out u).mono (fun e w' ⟨he, hb⟩ => ⟨he, ⟨(hb.block _ (lt_of_block hS.1)).trans hS.1, (hb.block _ (lt_of_block hS.2.1)).trans hS.2.1, (hb.block _ (lt_of_block2 hS.2.2.1)).trans hS.2.2.1, Below.step hS.2.2.2 hb⟩, fun k _ hk e => (hb.block _ (lt_of_block (hk e))).trans (hk e)⟩)) (fun g => by kernel_rfl) ?_
                refine .val _ 74 (fun g => .string (strOf [kn] ++ strOf idl ++ numS t.size)) rfl (by decide) rfl (fun g => by kernel_rfl) (fun g u hS hB => by simp only [setAll, List.zip_cons_cons, List.zip_nil_right, List.foldl_cons, List.foldl_nil, List.set_cons_zero, List.set_cons_succ]; go_simp) (fun g => by kernel_rfl) ?_
                refine .val _ 75 (fun g => .string (D ++ (strOf [kn] ++ strOf idl ++ numS t.size))) rfl (by decide) rfl (fun g => by kernel_rfl) (fun g u hS hB => by simp only [setAll, List.zip_cons_cons, List.zip_nil_right, List.foldl_cons, List.foldl_nil, List.set_cons_zero, List.set_cons_succ]; go_simp) (fun g => by kernel_rfl) ?_
                refine .val _ 6 (fun g => .string (D ++ (strOf [kn] ++ strOf idl ++ numS t.size))) rfl (by decide) rfl (fun g => by kernel_rfl) (fun g u hS hB => by simp only [setAll, List.zip_cons_cons, List.zip_nil_right, List.foldl_cons, List.foldl_nil, List.set_cons_zero, List.set_cons_succ]; go_simp) (fun g => by kernel_rfl) ?_
                exact .nil
              · intro g' u hS hB'
                clear hB'
                refine NoPanic.normal ?_
                simp only [setAll, List.zip_cons_cons, List.zip_nil_right, List.foldl_cons, List.foldl_nil, List.set_cons_zero, List.set_cons_succ]
                have HSE := Lib.hid hS.2.2.2
                have HSM := Lib.hid hS.2.2.1
                clear hS
                (try simp only [Exit.inBlock, Exit.then])
                rename_i HKK
                refine HKK _ _ ?_
                go_wp2_with fail
                go_roundw
                case rel => exact ⟨i + 1, ps ++ [t], _, _, rfl, rfl, by go_num, by have := HLT.out; omega, HPS2, HBB2, HDD2, HBS2, HDS2, HOK2, HND2, HSM, HSE⟩
                case measure => simp [intOf]; have := HLT.out; omega
        · have z2 : ((pc : Int) != 0) = true := by simp; omega
          have HC := Lib.hid hc
          clear hc
          go_wp2_with (first | (with_reducible refine wpList_store_mid rfl 49 (.tmp 9) (.tmp 34) rfl w5.heap.size 0 (bC idl) rfl rfl HTH.out HIB.out HOB.out ?_; rw [HW6.out]) | (with_reducible refine wpList_load_row rfl 49 (.tmp 9) rfl w5.heap.size rfl 49 (bC idl) (0, 0) _ HID6.out Tryd.underlying49 rfl HIB.out ?_))
          go_ret2
          exact MkEnd.bad HB6.out HC.out (fun hg => HC.out (by rw [← HPC.out]; exact hg.2.1 _ HMEM.out))
      · have m1 : ¬ (i : Int) < (l.length : Int) := by omega
        obtain rfl : i = l.length := by omega
        have hta : l.take l.length = l := List.take_of_length_le (Nat.le_refl _)
        rw [hta] at HPS HDD HOK HND
        rw [← HDN.out] at HDD
        have hdd : strN D = dirB l ps := HDD.out
        have hdl := congrArg List.length hdd
        rw [strN_length] at hdl
        have hbs := HBS.out
        have hds := HDS.out
        have hl4 := HL40.out
        obtain ⟨x, hx⟩ : ∃ x, D.size % 256 = x := ⟨_, rfl⟩
        obtain ⟨y, hy⟩ : ∃ y, D.size / 256 % 256 = y := ⟨_, rfl⟩
        have hx8 : IntKind.u8.wrap (D.size : Int) = (x : Int) := by show (D.size : Int) % 256 = _; omega
        have hy8 : IntKind.u8.wrap ((D.size : Int) / 256) = (y : Int) := by show (D.size : Int) / 256 % 256 = _; omega
        have hcv : (convert 92 9 (.slice (some ⟨wr.heap.size, 0, none⟩) 2 2)).run Tryd.prog (wr.alloc (.cells #[.int .u8 (x : Int), .int .u8 (y : Int)] 5)) = .ok (.string (strOf [x, y])) (wr.alloc (.cells #[.int .u8 (x : Int), .int .u8 (y : Int)] 5)) := conv_front (l := [x, y]) (r := []) (w := wr.alloc (.cells #[.int .u8 (x : Int), .int .u8 (y : Int)] 5)) (by intro c hc; simp only [List.mem_cons, List.not_mem_nil, or_false] at hc; omega) (heap_alloc_new wr _) 2
        have hst : strN (B ++ D ++ strOf [x, y]) = frontB l ps := by
          rw [strN_add, strN_add, strN_strOf [x, y] (by intro c hc; simp only [List.mem_cons, List.not_mem_nil, or_false] at hc; omega), HBB.out, hdd, ← hx, ← hy, hdl]
          rfl
        have q1 : (strOf [x, y]).size = 2 := by rw [strOf_size]; rfl
        have zb : B.size + D.size ≤ 9223372036854775807 := by omega
        have zc : B.size + D.size + (strOf [x, y]).size ≤ 9223372036854775807 := by omega
        have hsz : (B ++ D ++ strOf [x, y]).size ≤ 200000 := by rw [size_add, size_add]; omega
        have HID := Lib.hid fun wx => id_any (B ++ D ++ strOf [x, y]) wx (by omega)
        rw [hst] at HID
        have HST := Lib.hid hst
        have HSZ := Lib.hid hsz
        clear hdd hdl hbs hds hl4 hx hy hst q1 hta hi hlt hsz
        go_wp2_with fail
        refine (HID.out _).mono ?_
        rintro e w3 ⟨rfl, hb3⟩
        have hb3' := (HBR.out.alloc HBR.out.size (.cells #[.int .u8 (x : Int), .int .u8 (y : Int)] 5))
        have HB3 := Lib.hid (hb3'.trans (hb3.mono hb3'.size))
        have hil : (be8 (hsum (frontB l ps))).length = 8 := rfl
        have hib := be8_lt (hsum (frontB l ps))
        have HFIN : Hid (strN (B ++ D ++ strOf [x, y] ++ strOf (be8 (hsum (frontB l ps)))) = packB l ps) := by
          show _ = _
          rw [strN_add, HST.out, strN_strOf _ hib]
          rfl
        obtain ⟨idl, hidl⟩ : ∃ idl, be8 (hsum (frontB l ps)) = idl := ⟨_, rfl⟩
        have hag : (Value.agg ((be8 (hsum (frontB l ps))).map bV).toArray) = .agg (bC idl) := by rw [hidl]; rfl
        rw [hag]
        rw [hidl] at hil hib HFIN
        have HIL := Lib.hid hil
        have hz3 := heap_alloc_new w3 (.cells z8A 49)
        have HTH : Hid ((w3.alloc (.cells z8A 49)).there w3.heap.size 0 (bC idl).size) := there_idB hz3 rfl hil
        have HIB : Hid ((Tryd.prog.info? 49).map (·.size) = some (bC idl).size) := info_idB hil
        have HOB : Hid ((bC idl).all (·.oneCell') = true) := bC_oneP idl
        obtain ⟨w4, hw4⟩ : ∃ w4, (w3.alloc (.cells z8A 49)).setCells w3.heap.size 0 (bC idl).toList = w4 := ⟨_, rfl⟩
        have hid4 : w4.heap[w3.heap.size]? = some (.cells (bC idl) 49 (0, 0)) := by rw [← hw4]; exact row_idB hz3 rfl hil
        have HB4 : Hid (Below w.heap.size w w4) := by
          show Below _ _ _
          rw [← hw4]
          exact below_setCells HB3.out.size _ _ (HB3.out.alloc HB3.out.size _)
        have HW4 := Lib.hid hw4
        have hcv2 : (convert 92 9 (.slice (some ⟨w3.heap.size, 0, none⟩) 8 8)).run Tryd.prog w4 = .ok (.string (strOf idl)) w4 := by
          have := conv_front (l := idl) (r := []) (B := w3.heap.size) hib (by rw [List.append_nil]; exact hid4) 8
          rw [hil] at this
          exact this
        have zd : B.size + D.size + (strOf [x, y]).size + (strOf idl).size ≤ 9223372036854775807 := by
          have h1 := HSZ.out
          rw [size_add, size_add] at h1
          rw [strOf_size idl, hil]
          omega
        clear hcv hb3 hb3' hz3 hid4 hw4 hil hib hidl hag
        go_wp2_with (with_reducible refine wpList_store_mid rfl 49 (.tmp 16) (.tmp 91) rfl w3.heap.size 0 (bC idl) rfl rfl HTH.out HIB.out HOB.out ?_; rw [HW4.out])
        go_ret2
        exact ⟨HB4.out, _, 0, rfl, .inr ⟨rfl, ps, ⟨HL40.out, HOK.out, HND.out, HPS.out⟩, HFIN.out⟩⟩
end Go.Proofs.YtbfhhnpoogmlnaaDoor
