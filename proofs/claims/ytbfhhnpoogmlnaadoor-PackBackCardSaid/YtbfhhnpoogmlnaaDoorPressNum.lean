/- Press: the three numbers. -/
import Derived.Test.YtbfhhnpoogmlnaaDoorPressRd
import Derived.Test.YtbfhhnpoogmlnaaDoorBase3
namespace Go.Proofs.YtbfhhnpoogmlnaaDoor
open Go.RowKit Plain
set_option linter.unusedVariables false
set_option linter.unusedSimpArgs false
namespace Plain
/-- numbers, each with its limit: code, values, what is left -/
def nmP : List Nat → List Nat → Nat × List Nat × List Nat
  | [], s => (0, [], s)
  | m :: ms, s => if (getN s).2.2 ≠ 0 then ((getN s).2.2, [], []) else if m < (getN s).1 then (2, [], []) else
      ((nmP ms (s.drop (getN s).2.1)).1, (getN s).1 :: (nmP ms (s.drop (getN s).2.1)).2.1, (nmP ms (s.drop (getN s).2.1)).2.2)
theorem nmP_bad {m : Nat} {ms s : List Nat} (h : (getN s).2.2 ≠ 0) : nmP (m :: ms) s = ((getN s).2.2, [], []) := by rw [nmP, if_pos h]
theorem nmP_large {m : Nat} {ms s : List Nat} (h : (getN s).2.2 = 0) (h1 : m < (getN s).1) : nmP (m :: ms) s = (2, [], []) := by rw [nmP, if_neg (by omega), if_pos h1]
theorem nmP_more {m : Nat} {ms s : List Nat} (h : (getN s).2.2 = 0) (h1 : ¬ m < (getN s).1) : nmP (m :: ms) s = ((nmP ms (s.drop (getN s).2.1)).1, (getN s).1 :: (nmP ms (s.drop (getN s).2.1)).2.1, (nmP ms (s.drop (getN s).2.1)).2.2) := by rw [nmP, if_neg (by omega), if_neg h1]
end Plain
abbrev n3C (a b c : Nat) : Array Value := #[.int .i64 (a : Int), .int .i64 (b : Int), .int .i64 (c : Int)]
def lims : List Nat := [4096, 12288, 256]
theorem results_cell_row3 {P : Program} {fn : Func} {p u v : Tmp} {ty : TypeId} (h : fn.results = #[.cell p ty, .tmp u, .tmp v]) (tmps : Array Value) (w : World) (g : Nat) (t : TypeId) (cs : Array Value) (fr : Nat × Nat) (d : TypeDesc)
    (hp : tmps.getD p undef = .pointer (some ⟨g, 0, none⟩)) (hg : w.heap[g]? = some (.cells cs t fr))
    (hu : P.underlying ty = some d) (hd : (match d with | .struct _ | .array _ _ => true | _ => false) = true) (hi : (P.info? ty).map (·.size) = some cs.size) :
    (results fn tmps).run P w = .ok (.tuple #[.agg cs, tmps.getD u undef, tmps.getD v undef]) w := by
  have hp' : tmps[p]?.getD undef = .pointer (some ⟨g, 0, none⟩) := by simpa using hp
  simp [results, h, hp', asAddr, run_loadVar_row w g t ty cs fr d hg hu hd hi]
theorem there_n3 {w : World} {q : Nat} {t : TypeId} {a b c : Nat} (h : w.heap[q]? = some (.cells (n3C 0 0 0) t (0, 0))) : w.there q 0 (n3C a b c).size := there_part h (by show 0 + 3 ≤ 3; omega)
theorem row_full {w : World} {b : Nat} {t : TypeId} {cs : Array Value} {ns : Array Value} (h : w.heap[b]? = some (.cells cs t (0, 0))) (hn : cs.size = ns.size) : (w.setCells b 0 ns.toList).heap[b]? = some (.cells ns t (0, 0)) := by
  have := row_mid [] cs.toList [] ns.toList (w := w) (g := b) (t := t) (by simpa using h) (by simpa using hn)
  simpa using this
def NR (S : List Nat) (i : Nat) (x : List Nat) (a b c : Nat) : Prop :=
  (i = 0 ∧ x = S) ∨ (i = 1 ∧ nmP lims S = ((nmP [12288, 256] x).1, a :: (nmP [12288, 256] x).2.1, (nmP [12288, 256] x).2.2)) ∨
  (i = 2 ∧ nmP lims S = ((nmP [256] x).1, a :: b :: (nmP [256] x).2.1, (nmP [256] x).2.2)) ∨ (i = 3 ∧ nmP lims S = (0, [a, b, c], x))
def NmEnd (w0 : World) (s : ByteArray) (e : Ending) (w : World) : Prop := Below w0.heap.size w0 w ∧ ∃ (a b c : Nat) (t : ByteArray) (k : Nat), e = .returned (.tuple #[.agg (n3C a b c), .string t, .int .i64 (k : Int)]) ∧ k = (nmP lims (strN s)).1 ∧ t.size ≤ s.size ∧ (k = 0 → (nmP lims (strN s)).2 = ([a, b, c], strN t))
set_option maxRecDepth 100000 in
set_option maxHeartbeats 2000000 in
theorem numbers_any (s : ByteArray) (w : World) (hm : s.size ≤ 9223372036854775807) :
    Calls Tryd.prog 113 #[.string s] w (NmEnd w s) := by
  have HGT := Lib.hid fun (x : ByteArray) u (hx : x.size ≤ 9223372036854775807) => get_any x u hx
  have HB0 := Lib.hid (((Below.refl w.heap.size w).alloc (Nat.le_refl _) (.cells (n3C 0 0 0) 190)).alloc (by simp) (.cells (n3C 0 0 0) 190))
  have h2 := heap_twoK w (.cells (n3C 0 0 0) 190) (.cells (n3C 0 0 0) 190)
  have HR0 := Lib.hid h2.1
  have HR1 := Lib.hid h2.2
  clear h2
  have x0 := fun wx => run_index_ints (P := Tryd.prog) wx 247 120 3 .i64 .u64 #[.int .u64 4096, .int .u64 12288, .int .u64 256] 0 Tryd.underlying247 Tryd.underlying120 (by decide) (by omega) (by omega) rfl
  have x1 := fun wx => run_index_ints (P := Tryd.prog) wx 247 120 3 .i64 .u64 #[.int .u64 4096, .int .u64 12288, .int .u64 256] 1 Tryd.underlying247 Tryd.underlying120 (by decide) (by omega) (by omega) rfl
  have x2 := fun wx => run_index_ints (P := Tryd.prog) wx 247 120 3 .i64 .u64 #[.int .u64 4096, .int .u64 12288, .int .u64 256] 2 Tryd.underlying247 Tryd.underlying120 (by decide) (by omega) (by omega) rfl
  go_enter Tryd.func113, Tryd.ntmps113
  go_wp2_with fail
  go_loopw [0, 12] (fun sv iv wr => ∃ (i : Nat) (x : ByteArray) (a b c : Nat), sv = .string x ∧ iv = .int .i64 (i : Int) ∧ x.size ≤ s.size ∧ NR (strN s) i (strN x) a b c ∧ wr.heap[w.heap.size]? = some (.cells (n3C 0 0 0) 190 (0, 0)) ∧ wr.heap[w.heap.size + 1]? = some (.cells (n3C a b c) 190 (0, 0)) ∧ Below w.heap.size w wr) (fun _ iv _ => 3 - (intOf iv).toNat)
  case atStart => exact ⟨0, s, 0, 0, 0, rfl, rfl, Nat.le_refl _, .inl ⟨rfl, rfl⟩, HR0.out, HR1.out, HB0.out⟩
  case round =>
    obtain ⟨i, x, a, b, c, rfl, rfl, hx, hn, hr0, hr1, hb⟩ := hrel
    have HX := Lib.hid hx
    have HQ0 := Lib.hid hr0
    have HQ1 := Lib.hid hr1
    have HB := Lib.hid hb
    have c0 := cell_of_row _ _ 0 _ _ _ hr1
    have c1 := cell_of_row _ _ 1 _ _ _ hr1
    have c2 := cell_of_row _ _ 2 _ _ _ hr1
    have d0 := cell_of_row _ _ 0 _ _ _ hr0
    have f0 := frozen_of_row _ _ 0 _ _ hr0
    simp only [n3C, List.getElem?_toArray, List.getElem?_cons_succ, List.getElem?_cons_zero] at c0 c1 c2 d0
    clear hx hr0 hr1 hb
    rcases hn with ⟨rfl, hn⟩ | ⟨rfl, hn⟩ | ⟨rfl, hn⟩ | ⟨rfl, hn⟩
    · have HN := Lib.hid hn
      clear hn
      rw [show ((0 : Nat) : Int) = 0 from rfl]
      have HROW : Hid ((wr.setCells w.heap.size 0 (n3C a b c).toList).heap[w.heap.size]? = some (.cells (n3C a b c) 190 (0, 0))) := row_full HQ0.out rfl
      have HTH : Hid (wr.there w.heap.size 0 (n3C a b c).size) := there_n3 HQ0.out
      have HI3 : Hid ((Tryd.prog.info? 190).map (·.size) = some (n3C a b c).size) := by show (Tryd.prog.info? 190).map (·.size) = some 3; kernel_rfl
      have HO3 : Hid ((n3C a b c).all (·.oneCell') = true) := by show _ = _; simp [n3C, Value.oneCell']
      have HBW : Hid (Below w.heap.size w (wr.setCells w.heap.size 0 (n3C a b c).toList)) := below_setCells (Nat.le_refl _) _ _ HB.out
      go_wp2_with fail
      refine (HGT.out x _ (by have := HX.out; omega)).mono ?_
      rintro e w1 ⟨rfl, rfl⟩
      have hbd := getN_bound (strN x)
      rw [strN_length] at hbd
      obtain ⟨r, hr⟩ : ∃ r, getN (strN x) = r := ⟨_, rfl⟩
      have HR := Lib.hid hr
      rw [hr] at hbd ⊢
      obtain ⟨n, k, cd⟩ := r
      have HBD := Lib.hid hbd
      clear hr hbd
      by_cases hc : cd = 0
      · subst hc
        have HC0 := HR.out
        by_cases hn : 4096 < n
        · have z2 : (4096 : Int) < (n : Int) := by omega
          have HE : Hid (2 = (nmP lims (strN s)).1) := by
            show _ = _
            rw [← HN.out]; show _ = (nmP (4096 :: [12288, 256]) _).1
            rw [nmP_large (by rw [HR.out]) (by rw [HR.out]; exact hn)]
          clear hn HC0
          go_wp2_with (with_reducible refine wpList_store_mid rfl 190 (.tmp 2) (.tmp 29) rfl w.heap.size 0 (n3C a b c) rfl rfl HTH.out HI3.out HO3.out ?_)
          refine bodyPost_ret (results_cell_row3 rfl _ _ w.heap.size 190 (n3C a b c) (0, 0) _ rfl HROW.out Tryd.underlying190 rfl HI3.out) rfl ?_
          exact ⟨HBW.out, a, b, c, ⟨#[]⟩, 2, rfl, HE.out, Nat.zero_le _, fun e => absurd e (by decide)⟩
        · have z2 : ¬ (4096 : Int) < (n : Int) := by omega
          have hw : IntKind.i64.wrap (n : Int) = (n : Int) := by rw [IntKind.wrap_i64]; omega
          have hk1 : (k : Int) ≤ (x.size : Int) := by have := HBD.out.1; simp only at this; omega
          have hk0 : (0 : Int) ≤ (k : Int) := Int.natCast_nonneg _
          have fi := frozen_of_row _ _ 0 _ _ HQ1.out
          have HBD1 := HBD
          obtain ⟨y, hy⟩ : ∃ y, x.extract k x.size = y := ⟨_, rfl⟩
          have HY := Lib.hid hy
          go_wp2_with fail
          go_region
          all_goals go_wp2_with fail
          all_goals
            refine ⟨⟨0 + 1, y, n, b, c, rfl, rfl, ?_, ?_, (heap_setCell_other _ _ _ _ (by show w.heap.size ≠ w.heap.size + 1; omega)).trans HQ0.out, heap_setCell_same wr (w.heap.size + 1) 0 (n3C a b c) _ (.int .i64 (n : Int)) HQ1.out, (HB.out.setCell (Nat.le_succ _) _).drew⟩, by simp [intOf]⟩
            · have h1 := congrArg List.length (extract_strN x k); rw [HY.out, strN_length, List.length_drop, strN_length] at h1; have := HX.out; omega
            · have he : strN y = (strN x).drop k := by rw [← HY.out]; exact extract_strN x k
              have HE : nmP (4096 :: [12288, 256]) (strN x) = _ := nmP_more (by rw [HR.out]) (by rw [HR.out]; exact hn)
              rw [HR.out] at HE
              rw [HN.out] at HE he; exact .inr (.inl ⟨rfl, by rw [he]; exact HE⟩)
      · have z1 : ((cd : Int) != 0) = true := by simp; omega
        have HE : Hid (cd = (nmP lims (strN s)).1) := by
          show _ = _
          rw [← HN.out]; show _ = (nmP (4096 :: [12288, 256]) _).1
          rw [nmP_bad (by rw [HR.out]; exact hc), HR.out]
        have HCD := Lib.hid hc
        clear hc
        go_wp2_with (with_reducible refine wpList_store_mid rfl 190 (.tmp 2) (.tmp 24) rfl w.heap.size 0 (n3C a b c) rfl rfl HTH.out HI3.out HO3.out ?_)
        refine bodyPost_ret (results_cell_row3 rfl _ _ w.heap.size 190 (n3C a b c) (0, 0) _ rfl HROW.out Tryd.underlying190 rfl HI3.out) rfl ?_
        exact ⟨HBW.out, a, b, c, ⟨#[]⟩, cd, rfl, HE.out, Nat.zero_le _, fun e => absurd e HCD.out⟩
    · have HN := Lib.hid hn
      clear hn
      rw [show ((1 : Nat) : Int) = 1 from rfl]
      have HROW : Hid ((wr.setCells w.heap.size 0 (n3C a b c).toList).heap[w.heap.size]? = some (.cells (n3C a b c) 190 (0, 0))) := row_full HQ0.out rfl
      have HTH : Hid (wr.there w.heap.size 0 (n3C a b c).size) := there_n3 HQ0.out
      have HI3 : Hid ((Tryd.prog.info? 190).map (·.size) = some (n3C a b c).size) := by show (Tryd.prog.info? 190).map (·.size) = some 3; kernel_rfl
      have HO3 : Hid ((n3C a b c).all (·.oneCell') = true) := by show _ = _; simp [n3C, Value.oneCell']
      have HBW : Hid (Below w.heap.size w (wr.setCells w.heap.size 0 (n3C a b c).toList)) := below_setCells (Nat.le_refl _) _ _ HB.out
      go_wp2_with fail
      refine (HGT.out x _ (by have := HX.out; omega)).mono ?_
      rintro e w1 ⟨rfl, rfl⟩
      have hbd := getN_bound (strN x)
      rw [strN_length] at hbd
      obtain ⟨r, hr⟩ : ∃ r, getN (strN x) = r := ⟨_, rfl⟩
      have HR := Lib.hid hr
      rw [hr] at hbd ⊢
      obtain ⟨n, k, cd⟩ := r
      have HBD := Lib.hid hbd
      clear hr hbd
      by_cases hc : cd = 0
      · subst hc
        have HC0 := HR.out
        by_cases hn : 12288 < n
        · have z2 : (12288 : Int) < (n : Int) := by omega
          have HE : Hid (2 = (nmP lims (strN s)).1) := by
            show _ = _
            rw [HN.out]; show _ = (nmP (12288 :: [256]) _).1
            rw [nmP_large (by rw [HR.out]) (by rw [HR.out]; exact hn)]
          clear hn HC0
          go_wp2_with (with_reducible refine wpList_store_mid rfl 190 (.tmp 2) (.tmp 29) rfl w.heap.size 0 (n3C a b c) rfl rfl HTH.out HI3.out HO3.out ?_)
          refine bodyPost_ret (results_cell_row3 rfl _ _ w.heap.size 190 (n3C a b c) (0, 0) _ rfl HROW.out Tryd.underlying190 rfl HI3.out) rfl ?_
          exact ⟨HBW.out, a, b, c, ⟨#[]⟩, 2, rfl, HE.out, Nat.zero_le _, fun e => absurd e (by decide)⟩
        · have z2 : ¬ (12288 : Int) < (n : Int) := by omega
          have hw : IntKind.i64.wrap (n : Int) = (n : Int) := by rw [IntKind.wrap_i64]; omega
          have hk1 : (k : Int) ≤ (x.size : Int) := by have := HBD.out.1; simp only at this; omega
          have hk0 : (0 : Int) ≤ (k : Int) := Int.natCast_nonneg _
          have fi := frozen_of_row _ _ 1 _ _ HQ1.out
          have HBD1 := HBD
          obtain ⟨y, hy⟩ : ∃ y, x.extract k x.size = y := ⟨_, rfl⟩
          have HY := Lib.hid hy
          go_wp2_with fail
          go_region
          all_goals go_wp2_with fail
          all_goals
            refine ⟨⟨1 + 1, y, a, n, c, rfl, rfl, ?_, ?_, (heap_setCell_other _ _ _ _ (by show w.heap.size ≠ w.heap.size + 1; omega)).trans HQ0.out, heap_setCell_same wr (w.heap.size + 1) 1 (n3C a b c) _ (.int .i64 (n : Int)) HQ1.out, (HB.out.setCell (Nat.le_succ _) _).drew⟩, by simp [intOf]⟩
            · have h1 := congrArg List.length (extract_strN x k); rw [HY.out, strN_length, List.length_drop, strN_length] at h1; have := HX.out; omega
            · have he : strN y = (strN x).drop k := by rw [← HY.out]; exact extract_strN x k
              have HE : nmP (12288 :: [256]) (strN x) = _ := nmP_more (by rw [HR.out]) (by rw [HR.out]; exact hn)
              rw [HR.out] at HE
              exact .inr (.inr (.inl ⟨rfl, by rw [HN.out, HE, he]⟩))
      · have z1 : ((cd : Int) != 0) = true := by simp; omega
        have HE : Hid (cd = (nmP lims (strN s)).1) := by
          show _ = _
          rw [HN.out]; show _ = (nmP (12288 :: [256]) _).1
          rw [nmP_bad (by rw [HR.out]; exact hc), HR.out]
        have HCD := Lib.hid hc
        clear hc
        go_wp2_with (with_reducible refine wpList_store_mid rfl 190 (.tmp 2) (.tmp 24) rfl w.heap.size 0 (n3C a b c) rfl rfl HTH.out HI3.out HO3.out ?_)
        refine bodyPost_ret (results_cell_row3 rfl _ _ w.heap.size 190 (n3C a b c) (0, 0) _ rfl HROW.out Tryd.underlying190 rfl HI3.out) rfl ?_
        exact ⟨HBW.out, a, b, c, ⟨#[]⟩, cd, rfl, HE.out, Nat.zero_le _, fun e => absurd e HCD.out⟩
    · have HN := Lib.hid hn
      clear hn
      rw [show ((2 : Nat) : Int) = 2 from rfl]
      have HROW : Hid ((wr.setCells w.heap.size 0 (n3C a b c).toList).heap[w.heap.size]? = some (.cells (n3C a b c) 190 (0, 0))) := row_full HQ0.out rfl
      have HTH : Hid (wr.there w.heap.size 0 (n3C a b c).size) := there_n3 HQ0.out
      have HI3 : Hid ((Tryd.prog.info? 190).map (·.size) = some (n3C a b c).size) := by show (Tryd.prog.info? 190).map (·.size) = some 3; kernel_rfl
      have HO3 : Hid ((n3C a b c).all (·.oneCell') = true) := by show _ = _; simp [n3C, Value.oneCell']
      have HBW : Hid (Below w.heap.size w (wr.setCells w.heap.size 0 (n3C a b c).toList)) := below_setCells (Nat.le_refl _) _ _ HB.out
      go_wp2_with fail
      refine (HGT.out x _ (by have := HX.out; omega)).mono ?_
      rintro e w1 ⟨rfl, rfl⟩
      have hbd := getN_bound (strN x)
      rw [strN_length] at hbd
      obtain ⟨r, hr⟩ : ∃ r, getN (strN x) = r := ⟨_, rfl⟩
      have HR := Lib.hid hr
      rw [hr] at hbd ⊢
      obtain ⟨n, k, cd⟩ := r
      have HBD := Lib.hid hbd
      clear hr hbd
      by_cases hc : cd = 0
      · subst hc
        have HC0 := HR.out
        by_cases hn : 256 < n
        · have z2 : (256 : Int) < (n : Int) := by omega
          have HE : Hid (2 = (nmP lims (strN s)).1) := by
            show _ = _
            rw [HN.out]; show _ = (nmP (256 :: []) _).1
            rw [nmP_large (by rw [HR.out]) (by rw [HR.out]; exact hn)]
          clear hn HC0
          go_wp2_with (with_reducible refine wpList_store_mid rfl 190 (.tmp 2) (.tmp 29) rfl w.heap.size 0 (n3C a b c) rfl rfl HTH.out HI3.out HO3.out ?_)
          refine bodyPost_ret (results_cell_row3 rfl _ _ w.heap.size 190 (n3C a b c) (0, 0) _ rfl HROW.out Tryd.underlying190 rfl HI3.out) rfl ?_
          exact ⟨HBW.out, a, b, c, ⟨#[]⟩, 2, rfl, HE.out, Nat.zero_le _, fun e => absurd e (by decide)⟩
        · have z2 : ¬ (256 : Int) < (n : Int) := by omega
          have hw : IntKind.i64.wrap (n : Int) = (n : Int) := by rw [IntKind.wrap_i64]; omega
          have hk1 : (k : Int) ≤ (x.size : Int) := by have := HBD.out.1; simp only at this; omega
          have hk0 : (0 : Int) ≤ (k : Int) := Int.natCast_nonneg _
          have fi := frozen_of_row _ _ 2 _ _ HQ1.out
          have HBD1 := HBD
          obtain ⟨y, hy⟩ : ∃ y, x.extract k x.size = y := ⟨_, rfl⟩
          have HY := Lib.hid hy
          go_wp2_with fail
          go_region
          all_goals go_wp2_with fail
          all_goals
            refine ⟨⟨2 + 1, y, a, b, n, rfl, rfl, ?_, ?_, (heap_setCell_other _ _ _ _ (by show w.heap.size ≠ w.heap.size + 1; omega)).trans HQ0.out, heap_setCell_same wr (w.heap.size + 1) 2 (n3C a b c) _ (.int .i64 (n : Int)) HQ1.out, (HB.out.setCell (Nat.le_succ _) _).drew⟩, by simp [intOf]⟩
            · have h1 := congrArg List.length (extract_strN x k); rw [HY.out, strN_length, List.length_drop, strN_length] at h1; have := HX.out; omega
            · have he : strN y = (strN x).drop k := by rw [← HY.out]; exact extract_strN x k
              have HE : nmP (256 :: []) (strN x) = _ := nmP_more (by rw [HR.out]) (by rw [HR.out]; exact hn)
              rw [HR.out] at HE
              exact .inr (.inr (.inr ⟨rfl, by rw [HN.out, HE, he]; rfl⟩))
      · have z1 : ((cd : Int) != 0) = true := by simp; omega
        have HE : Hid (cd = (nmP lims (strN s)).1) := by
          show _ = _
          rw [HN.out]; show _ = (nmP (256 :: []) _).1
          rw [nmP_bad (by rw [HR.out]; exact hc), HR.out]
        have HCD := Lib.hid hc
        clear hc
        go_wp2_with (with_reducible refine wpList_store_mid rfl 190 (.tmp 2) (.tmp 24) rfl w.heap.size 0 (n3C a b c) rfl rfl HTH.out HI3.out HO3.out ?_)
        refine bodyPost_ret (results_cell_row3 rfl _ _ w.heap.size 190 (n3C a b c) (0, 0) _ rfl HROW.out Tryd.underlying190 rfl HI3.out) rfl ?_
        exact ⟨HBW.out, a, b, c, ⟨#[]⟩, cd, rfl, HE.out, Nat.zero_le _, fun e => absurd e HCD.out⟩
    · have HN := Lib.hid hn
      clear hn
      rw [show ((3 : Nat) : Int) = 3 from rfl]
      have HROW : Hid ((wr.setCells w.heap.size 0 (n3C a b c).toList).heap[w.heap.size]? = some (.cells (n3C a b c) 190 (0, 0))) := row_full HQ0.out rfl
      have HTH : Hid (wr.there w.heap.size 0 (n3C a b c).size) := there_n3 HQ0.out
      have HI3 : Hid ((Tryd.prog.info? 190).map (·.size) = some (n3C a b c).size) := by show (Tryd.prog.info? 190).map (·.size) = some 3; kernel_rfl
      have HO3 : Hid ((n3C a b c).all (·.oneCell') = true) := by show _ = _; simp [n3C, Value.oneCell']
      have HBW : Hid (Below w.heap.size w (wr.setCells w.heap.size 0 (n3C a b c).toList)) := below_setCells (Nat.le_refl _) _ _ HB.out
      go_wp2_with (with_reducible refine wpList_store_mid rfl 190 (.tmp 2) (.tmp 38) rfl w.heap.size 0 (n3C a b c) rfl rfl HTH.out HI3.out HO3.out ?_)
      refine bodyPost_ret (results_cell_row3 rfl _ _ w.heap.size 190 (n3C a b c) (0, 0) _ rfl HROW.out Tryd.underlying190 rfl HI3.out) rfl ?_
      exact ⟨HBW.out, a, b, c, x, 0, rfl, by rw [HN.out], HX.out, fun _ => by rw [HN.out]⟩
end Go.Proofs.YtbfhhnpoogmlnaaDoor
