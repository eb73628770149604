/- The walk of line.Takes. -/
import Derived.Test.YtinjnclpiiohcaaLineTakes0
namespace Go.Proofs.Ytinjnclpiiohcaa
open Go.RowKit Plain
set_option linter.unusedVariables false
set_option linter.unusedSimpArgs false
set_option maxRecDepth 100000 in
set_option maxHeartbeats 16000000 in
theorem takes_any (ga la : Option Addr) (gc lc : Nat) (got : List ByteArray) (held : List PkT) (p : PkT) (w : World) (ht : SAt 1 stC w ga got) (hh : SAt 3 pkC w la held) (ng : got.length ≤ 9223372036854775807) (nh : held.length ≤ 9223372036854775807) :
    Calls Try.prog 15 #[.agg #[.slice ga got.length gc, .slice la held.length lc], .agg (pkC p).toArray] w (TkEnd w got held p) := by
  obtain ⟨k, q, s⟩ := p
  by_cases hput : InPut got.length held k q
  · exact takes_put ga la gc lc got held (k, q, s) w ht hh ng nh hput
  have HNP := Lib.hid hput
  clear hput
  obtain ⟨i0, hi0, hz0, hz1, hz2⟩ := info_stM
  have HI : Hid ((Try.prog.info? 28).map (·.size) = some 2) := by show _ = _; kernel_rfl
  have HT := Lib.hid ht
  have HH := Lib.hid hh
  have HCK := Lib.hid fun u h1 => creceiver_any ga la got.length gc lc held u h1 ng nh
  have HCS := Lib.hid fun u h1 h2 => cloneS_any ga gc got u h1 h2
  have HCB := Lib.hid fun u h1 h2 => cloneK_any la lc held u h1 h2
  have HCK2 := Lib.hid fun a c (l : List PkT) u h1 h2 => cloneK_any a c l u h1 h2
  have HSR := Lib.hid fun a c (l : List PkT) u h1 h2 h3 => psearch_any a c l q u h1 h2 h3
  have HINS := Lib.hid fun base c vb a (l : List PkT) i x u h1 h2 h3 h4 h5 h6 => insert_any base c vb a l i x u h1 h2 h3 h4 h5 h6
  have H3 := heap_twoK w (.cells #[.slice ga got.length gc, .slice la held.length lc] 28) (.cells #[.int .i64 k, .int .i64 q, .string s] 30)
  have HB := Lib.hid ((((Below.refl w.heap.size w).alloc (Nat.le_refl _) (.cells #[.slice ga got.length gc, .slice la held.length lc] 28)).alloc (by simp) (.cells #[.int .i64 k, .int .i64 q, .string s] 30)).alloc (by simp; omega) (.cells #[.slice none 0 0, .slice none 0 0] 28))
  have HR0 : Hid ((((w.alloc (.cells #[.slice ga got.length gc, .slice la held.length lc] 28)).alloc (.cells #[.int .i64 k, .int .i64 q, .string s] 30)).alloc (.cells #[.slice none 0 0, .slice none 0 0] 28)).heap[w.heap.size]? = some (.cells #[.slice ga got.length gc, .slice la held.length lc] 28 (0, 0))) := by show _ = _; rw [Below.heap_alloc _ _ _ (by simp; omega)]; exact H3.1
  have HR1 : Hid ((((w.alloc (.cells #[.slice ga got.length gc, .slice la held.length lc] 28)).alloc (.cells #[.int .i64 k, .int .i64 q, .string s] 30)).alloc (.cells #[.slice none 0 0, .slice none 0 0] 28)).heap[w.heap.size + 1]? = some (.cells #[.int .i64 k, .int .i64 q, .string s] 30 (0, 0))) := by show _ = _; rw [Below.heap_alloc _ _ _ (by simp)]; exact H3.2
  have HR2 : Hid ((((w.alloc (.cells #[.slice ga got.length gc, .slice la held.length lc] 28)).alloc (.cells #[.int .i64 k, .int .i64 q, .string s] 30)).alloc (.cells #[.slice none 0 0, .slice none 0 0] 28)).heap[w.heap.size + 1 + 1]? = some (.cells #[.slice none 0 0, .slice none 0 0] 28 (0, 0))) := by
    have := heap_alloc_new ((w.alloc (.cells #[.slice ga got.length gc, .slice la held.length lc] 28)).alloc (.cells #[.int .i64 k, .int .i64 q, .string s] 30)) (.cells #[.slice none 0 0, .slice none 0 0] 28)
    show _ = _
    simpa using this
  have HSZ3 : Hid ((((w.alloc (.cells #[.slice ga got.length gc, .slice la held.length lc] 28)).alloc (.cells #[.int .i64 k, .int .i64 q, .string s] 30)).alloc (.cells #[.slice none 0 0, .slice none 0 0] 28)).heap.size = w.heap.size + 3) := by show _ = _; simp
  clear ht hh H3
  simp only [pkC]
  go_enter Try.func15, Try.ntmps15
  go_wp2_with fail
  refine (HCK.out _ (HH.out.below HB.out)).mono ?_
  rintro e w1 ⟨c, rfl, hc, hb1⟩
  have HB1 := Lib.hid (Below.next HB.out hb1 (by simp <;> omega))
  have HQ0 := Lib.hid ((hb1.block _ (lt_of_block HR0.out)).trans HR0.out)
  have HQ1 := Lib.hid ((hb1.block _ (lt_of_block HR1.out)).trans HR1.out)
  have HQ2 := Lib.hid ((hb1.block _ (lt_of_block HR2.out)).trans HR2.out)
  have HSZ1 : Hid (w.heap.size + 3 ≤ w1.heap.size) := by have := hb1.size; rw [HSZ3.out] at this; exact this
  clear hb1 HR0 HR1 HR2 HB HSZ3
  by_cases hc0 : c = 0
  · have hok := hc.1 hc0
    subst hc0
    have HOK := Lib.hid hok
    have hg2000 := hok.1
    have hh8 := hok.2.1
    clear hc hok
    have r0 := cell_of_row _ _ 0 _ _ _ HQ0.out
    have r1 := cell_of_row _ _ 1 _ _ _ HQ0.out
    simp only [List.getElem?_toArray, List.getElem?_cons_succ, List.getElem?_cons_zero] at r0 r1
    go_wp2_with fail
    clear r0 r1
    refine wp_region_noPanic ?_
    refine wp_region_held_drew (S := fun u => Below w1.heap.size w1 u) (by kernel_rfl) (Below.refl _ _).drew (fun hS0 => ?_)
    have HS0 := Lib.hid hS0
    clear hS0
    refine take_val 0 (.pointer (some ⟨w.heap.size, 0, none⟩)) rfl (by kernel_rfl) (by kernel_rfl) (by kernel_rfl) (fun _ _ _ _ h => h) (by rfl) rfl (fun wz hS => by go_simp) HS0.out ?_
    try simp only [List.set_cons_zero, List.set_cons_succ]
    refine take_val 1 (.slice ga got.length gc) rfl (by kernel_rfl) (by kernel_rfl) (by kernel_rfl) (fun _ _ _ _ h => h) (by rfl) rfl (fun wz hS => by have hz := cell_of_row _ _ 0 _ _ _ ((hS.block _ (lt_of_block HQ0.out)).trans HQ0.out); simp only [List.getElem?_toArray, List.getElem?_cons_zero, List.getElem?_cons_succ] at hz; go_simp) HS0.out ?_
    try simp only [List.set_cons_zero, List.set_cons_succ]
    refine take_val 3 (.pointer (some ⟨w.heap.size, 1, none⟩)) rfl (by kernel_rfl) (by kernel_rfl) (by kernel_rfl) (fun _ _ _ _ h => h) (by rfl) rfl (fun wz hS => by go_simp) HS0.out ?_
    try simp only [List.set_cons_zero, List.set_cons_succ]
    refine take_val 4 (.slice la held.length lc) rfl (by kernel_rfl) (by kernel_rfl) (by kernel_rfl) (fun _ _ _ _ h => h) (by rfl) rfl (fun wz hS => by have hz := cell_of_row _ _ 1 _ _ _ ((hS.block _ (lt_of_block HQ0.out)).trans HQ0.out); simp only [List.getElem?_toArray, List.getElem?_cons_zero, List.getElem?_cons_succ] at hz; go_simp) HS0.out ?_
    try simp only [List.set_cons_zero, List.set_cons_succ]
    refine wpAnyH_obls (γ := (Option Addr × Nat × Option Addr × Nat × Nat)) [2, 5, 7, 8] (fun kx (g : (Option Addr × Nat × Option Addr × Nat × Nat)) w' => (kx = 2 → w'.ownsRow w1.heap.size 9 1 (.slice g.1 got.length g.2.1) got.length (got.flatMap stC)) ∧ (kx = 5 → w'.ownsRow w1.heap.size 30 3 (.slice g.2.2.1 held.length g.2.2.2.1) held.length (held.flatMap pkC)) ∧ (kx = 7 → RowZ 28 w1.heap.size g.2.2.2.2 2 w') ∧ (kx = 8 → w'.heap[g.2.2.2.2]? = some (.cells #[.slice g.1 got.length g.2.1, .slice g.2.2.1 held.length g.2.2.2.1] 28 (0, 0)))) [20, 23, 24, 8] (fun g => [.slice g.1 got.length g.2.1, .slice g.2.2.1 held.length g.2.2.2.1, .agg #[.slice g.1 got.length g.2.1, .slice g.2.2.1 held.length g.2.2.2.1], .pointer (some ⟨g.2.2.2.2, 0, none⟩)]) [2, 5, 6, 7, 8] (none, 0, none, 0, 0) (by kernel_rfl) (by kernel_rfl) (by kernel_rfl) (by kernel_rfl) (by kernel_rfl) (by kernel_rfl) (by decide +kernel) (fun _ _ _ _ h => h) HS0.out ?_ ?_
    · skip
      refine .callM _ 20 [24] _ _ (by kernel_rfl) rfl rfl (fun g => by kernel_rfl) (fun g u hS => by simp only [setAll, List.zip_cons_cons, List.zip_nil_right, List.foldl_cons, List.foldl_nil, List.set_cons_zero, List.set_cons_succ]; go_simp) (fun g u hS hB => ((HCS.out u (HT.out.below (Below.step HB1.out hS)) (by omega)).mono (fun e w' hcl => ?_))) ?_
      · obtain ⟨hbw, x, y, rfl, hown⟩ := hcl
        exact ⟨(x, y, g.2.2.1, g.2.2.2.1, g.2.2.2.2), _, rfl, rfl, Below.step hS hbw, ⟨fun _ => own_mono hown hS.size, fun e => absurd e (by decide), fun e => absurd e (by decide), fun e => absurd e (by decide)⟩, fun k hk hne hna hb => ⟨fun e => absurd e hne, fun e => own_belowK (hb.2.1 e) hbw, fun e => RowZ.below (hb.2.2.1 e) hbw, fun e => by subst e; exact absurd hna (by decide +kernel)⟩, fun t ht => (show Differ [20, 24] _ _ by simp only [List.zip_cons_cons, List.zip_nil_right]; repeat (first | exact .nil | refine .same ?_ | refine .diff (by decide) ?_)).get _ _ rfl (fun _ _ => rfl) t ht⟩
      refine .callM _ 23 [24] _ _ (by kernel_rfl) rfl rfl (fun g => by kernel_rfl) (fun g u hS => by simp only [setAll, List.zip_cons_cons, List.zip_nil_right, List.foldl_cons, List.foldl_nil, List.set_cons_zero, List.set_cons_succ]; go_simp) (fun g u hS hB => ((HCB.out u (HH.out.below (Below.step HB1.out hS)) (by omega)).mono (fun e w' hcl => ?_))) ?_
      · obtain ⟨hbw, x, y, rfl, hown⟩ := hcl
        exact ⟨(g.1, g.2.1, x, y, g.2.2.2.2), _, rfl, rfl, Below.step hS hbw, ⟨fun e => absurd e (by decide), fun _ => own_mono hown hS.size, fun e => absurd e (by decide), fun e => absurd e (by decide)⟩, fun k hk hne hna hb => ⟨fun e => own_belowK (hb.1 e) hbw, fun e => absurd e hne, fun e => RowZ.below (hb.2.2.1 e) hbw, fun e => by subst e; exact absurd hna (by decide +kernel)⟩, fun t ht => (show Differ [23, 24] _ _ by simp only [List.zip_cons_cons, List.zip_nil_right]; repeat (first | exact .nil | refine .same ?_ | refine .diff (by decide) ?_)).get _ _ rfl (fun _ _ => rfl) t ht⟩
      refine .val _ 24 (fun g => .agg #[.slice g.1 got.length g.2.1, .slice g.2.2.1 held.length g.2.2.2.1]) rfl (by decide) rfl (fun g => by kernel_rfl) (fun g u hS hB => by simp only [setAll, List.zip_cons_cons, List.zip_nil_right, List.foldl_cons, List.foldl_nil, List.set_cons_zero, List.set_cons_succ]; go_simp) (fun g => by rfl) ?_
      refine .mk _ 8 [] (by kernel_rfl) rfl rfl (fun g => by kernel_rfl) (fun g u hS hB => ⟨(g.1, g.2.1, g.2.2.1, g.2.2.2.1, u.heap.size), .pointer (some ⟨u.heap.size, 0, none⟩), u.alloc (.cells #[.slice none 0 0, .slice none 0 0] 28), by simp only [setAll, List.zip_cons_cons, List.zip_nil_right, List.foldl_cons, List.foldl_nil, List.set_cons_zero, List.set_cons_succ]; go_simp, by rfl, hS.alloc hS.size _, ⟨fun e => absurd e (by decide), fun e => absurd e (by decide), fun _ => ⟨hS.size, _, heap_alloc_new u _, rfl⟩, fun e => absurd e (by decide)⟩, fun k hk hne hna hb => have hbw : Below u.heap.size u (u.alloc (.cells #[.slice none 0 0, .slice none 0 0] 28)) := (Below.refl _ _).alloc (Nat.le_refl _) _; ⟨fun e => own_belowK (hb.1 e) hbw, fun e => own_belowK (hb.2.1 e) hbw, fun e => absurd e hne, fun e => by subst e; exact absurd hna (by decide +kernel)⟩, fun t ht => (show Differ [8] _ _ by simp only [List.zip_cons_cons, List.zip_nil_right]; repeat (first | exact .nil | refine .same ?_ | refine .diff (by decide) ?_)).get _ _ rfl (fun _ _ => rfl) t ht⟩) ?_
      refine .eff _ rfl rfl (fun g => by kernel_rfl) (fun g u hS hB => by simp only [setAll, List.zip_cons_cons, List.zip_nil_right, List.foldl_cons, List.foldl_nil, List.set_cons_zero, List.set_cons_succ]; exact (st_row (B := w1.heap.size) (w0 := w1) (b := g.2.2.2.2) (n := 2) (full := #[.slice g.1 got.length g.2.1, .slice g.2.2.1 held.length g.2.2.2.1]) rfl rfl rfl hS ((hB 7 (by decide) (by kernel_rfl)).2.2.1 rfl) rfl HI.out (recv_one _ _ _ _ _ _) rfl) |> Oper.wp_mono (fun a' w' h => ⟨h.1, h.2.1, ⟨fun e => absurd e (by decide), fun e => absurd e (by decide), fun e => absurd e (by decide), fun _ => h.2.2.1⟩, fun k hk hne hb => ⟨fun e => own_keep (hb.1 e) (fun g' cs hg' _ => h.2.2.2 g' (rowz_ne hg' ((hB 7 (by decide) (by kernel_rfl)).2.2.1 rfl) (by decide))), fun e => own_keep (hb.2.1 e) (fun g' cs hg' _ => h.2.2.2 g' (rowz_ne hg' ((hB 7 (by decide) (by kernel_rfl)).2.2.1 rfl) (by decide))), fun e => ⟨(hb.2.2.1 e).1, _, h.2.2.1, rfl⟩, fun e => absurd e hne⟩⟩)) ?_
      exact .nil
    intro gg u hS hB
    refine NoPanic.normal ?_
    obtain ⟨a1, c1, a2, c2, ob⟩ := gg
    simp only [setAll, List.zip_cons_cons, List.zip_nil_right, List.foldl_cons, List.foldl_nil, List.set_cons_zero, List.set_cons_succ]
    have HOWK : Hid (u.ownsRow w1.heap.size 30 3 (.slice a2 held.length c2) held.length (held.flatMap pkC)) := (hB 5 (by decide)).2.1 rfl
    have hcap2 : held.length ≤ c2 ∧ c2 ≤ 9223372036854775807 := own_capK HOWK.out
    have HST : Hid (RSt w1.heap.size ob a1 c1 a2 c2 got held u) := ⟨(hB 2 (by decide)).1 rfl, ⟨sat_own1 pkC_length HOWK.out, pb_own HOWK.out, hcap2⟩, (hB 8 (by decide)).2.2.2 rfl, ((hB 7 (by decide)).2.2.1 rfl).1⟩
    have HBU := Lib.hid (Below.step HB1.out hS)
    have HU1 := Lib.hid ((hS.block _ (lt_of_block HQ1.out)).trans HQ1.out)
    have HU2 := Lib.hid ((hS.block _ (lt_of_block HQ2.out)).trans HQ2.out)
    clear hS hB HS0 HQ0 HQ1 HQ2 hcap2
    have p0 := cell_of_row _ _ 0 _ _ _ HU1.out
    have p1 := cell_of_row _ _ 1 _ _ _ HU1.out
    have p2 := cell_of_row _ _ 2 _ _ _ HU1.out
    have q0 := cell_of_row _ _ 0 _ _ _ HST.out.2.2.1
    have q1 := cell_of_row _ _ 1 _ _ _ HST.out.2.2.1
    simp only [List.getElem?_toArray, List.getElem?_cons_succ, List.getElem?_cons_zero] at p0 p1 p2 q0 q1
    by_cases hk : k = 1
    · subst hk
      by_cases hq0 : 0 ≤ q
      · have g1 : ¬ (q < 0) := by omega
        by_cases hq8 : q < (got.length : Int) + 8 ∧ q < 2000
        · have g2 : ¬ (q ≥ min ((got.length : Int) + 8) 2000) := by omega
          go_wp2_with fail
          obtain ⟨sa, sb⟩ : SAt 3 pkC u a2 held ∧ (∀ p q (hp : p < held.length) (hq : q < held.length), p < q → held[p].2.1 < held[q].2.1) := ⟨HST.out.2.1.1, rises_lt HOK.out.2.2⟩
          have HSS := Lib.hid (HSR.out a2 c2 held u sa hh8 sb)
          clear sa sb
          refine HSS.out.mono ?_
          rintro e u2 ⟨i, f, hps, hf, rfl, hbu2⟩
          have HST2 := Lib.hid (HST.out.below hbu2)
          have HOWK2 := Lib.hid (own_belowK HOWK.out hbu2)
          have HBU2 := Lib.hid (Below.step HBU.out hbu2)
          have HU1b := Lib.hid ((hbu2.block _ (lt_of_block HU1.out)).trans HU1.out)
          have HU2b := Lib.hid ((hbu2.block _ (lt_of_block HU2.out)).trans HU2.out)
          have HPS := Lib.hid hps
          have HF := Lib.hid hf
          clear hps hf hbu2 p0 p1 p2 q0 q1 HSS HST HOWK HBU HU1 HU2
          have p0 := cell_of_row _ _ 0 _ _ _ HU1b.out
          have p1 := cell_of_row _ _ 1 _ _ _ HU1b.out
          have p2 := cell_of_row _ _ 2 _ _ _ HU1b.out
          have q0 := cell_of_row _ _ 0 _ _ _ HST2.out.2.2.1
          have q1 := cell_of_row _ _ 1 _ _ _ HST2.out.2.2.1
          have qf := frozen_of_row _ _ 1 _ _ HST2.out.2.2.1
          simp only [List.getElem?_toArray, List.getElem?_cons_succ, List.getElem?_cons_zero] at p0 p1 p2 q0 q1
          by_cases hB : (got.length : Int) ≤ q ∧ f = false
          · obtain ⟨hqn, rfl⟩ := hB
            have HNEX : Hid (¬ ∃ y ∈ held, y.2.1 = q) := fun ⟨y, hy, e⟩ => by
              obtain ⟨m, hm, rfl⟩ := List.mem_iff_getElem.1 hy
              have h1 := HPS.out.2.2.1 m hm
              have h2 := HPS.out.2.2.2 m hm
              rcases Nat.lt_trichotomy m i with h3 | h3 | h3
              · have := h1 h3; omega
              · subst h3
                have := HF.out.2 ⟨hm, e⟩
                cases this
              · have h4 := rises_lt HOK.out.2.2 i m (by omega) hm h3
                have h5 := HPS.out.2.2.2 i (by omega) (Nat.le_refl _)
                omega
            exact (HNP.out ⟨rfl, hqn, hq8.1, hq8.2, HNEX.out⟩).elim
          · have HL : Hid (q < (got.length : Int) ∨ ∃ y ∈ held, y.2.1 = q) := by
              show _ ∨ _
              by_cases h1 : (got.length : Int) ≤ q
              · have hft : f = true := by
                  cases f with
                  | true => rfl
                  | false => exact absurd ⟨h1, rfl⟩ hB
                obtain ⟨h, e⟩ := HF.out.1 hft
                exact .inr ⟨_, List.getElem_mem h, e⟩
              · exact .inl (by omega)
            have HSTL := HST2
            have HBL := HBU2
            have HPL := HU1b
            have HZL := HU2b
            have hL20 : held.length ≤ 19 := by omega
            have HLP : Hid (InL got.length held (1, q, s) held) := .inl ⟨HL.out, rfl⟩
            by_cases h1 : (got.length : Int) ≤ q
            · have n1 : q ≥ (got.length : Int) := h1
              have hft : f = true := by
                cases f with
                | true => rfl
                | false => exact absurd ⟨h1, rfl⟩ hB
              subst hft
              clear hB
              go_wp2_with fail
              clear p0 p1 p2 q0 q1 qf
              go_loopw [] (fun wr => ∃ (j : Nat) (b1 : Option Addr) (d1 : Nat) (b2 : Option Addr) (d2 : Nat), j ≤ held.length ∧ Hid (RSt w1.heap.size ob b1 d1 b2 d2 (got ++ (held.take j).map (fun q => q.2.2)) (held.drop j) wr) ∧ Hid (Below w.heap.size w wr) ∧ Hid (wr.heap[w.heap.size + 1]? = some (.cells #[.int .i64 1, .int .i64 q, .string s] 30 (0, 0))) ∧ Hid (wr.heap[w.heap.size + 1 + 1]? = some (.cells #[.slice none 0 0, .slice none 0 0] 28 (0, 0))) ∧ Hid (∀ i (h : i < held.length), i < j → held[i].2.1 = (got.length : Int) + i)) (fun wr => lenOfV ((wr.cell? ⟨ob, 1, none⟩).getD undef))
              case atStart => exact ⟨0, _, _, _, _, Nat.zero_le _, Lib.hid (by simpa using HSTL.out), HBL, HPL, HZL, Lib.hid (fun i h1 h2 => by omega)⟩
              case round =>
                obtain ⟨j, b1, d1, b2, d2, hjl, HSR, HBW, HPW, HZW, HDR⟩ := hrel
                obtain ⟨GJ, hGJ⟩ : ∃ GJ, got ++ (held.take j).map (fun q => q.2.2) = GJ := ⟨_, rfl⟩
                obtain ⟨M, hM⟩ : ∃ M, held.drop j = M := ⟨_, rfl⟩
                rw [hGJ, hM] at HSR
                have HGLN : Hid (GJ.length = got.length + j) := by
                  show _ = _
                  rw [← hGJ, List.length_append, List.length_map, List.length_take, Nat.min_eq_left hjl]
                have HMLN : Hid (M.length = held.length - j) := by show _ = _; rw [← hM, List.length_drop]
                have HGJ := Lib.hid hGJ
                have HM := Lib.hid hM
                have gj1 : GJ.length ≤ 2020 := by have := HGLN.out; omega
                have ml1 : M.length ≤ 20 := by have := HMLN.out; omega
                have q0 := cell_of_row _ _ 0 _ _ _ HSR.out.2.2.1
                have q1 := cell_of_row _ _ 1 _ _ _ HSR.out.2.2.1
                simp only [List.getElem?_toArray, List.getElem?_cons_succ, List.getElem?_cons_zero] at q0 q1
                clear hGJ hM
                by_cases hm0 : 0 < M.length
                · have m1 : (M.length : Int) > 0 := by omega
                  have hjL : j < held.length := by have := HMLN.out; omega
                  obtain ⟨y, hy⟩ : ∃ y, M[0] = y := ⟨_, rfl⟩
                  obtain ⟨g, off, rfl, hgl, _, y1, y2⟩ := HSR.out.2.1.1.packet 0 hm0 y hy
                  rw [Nat.zero_mul, Nat.add_zero] at y1 y2
                  have HYP : Hid (held[j] = y) := by
                    show _ = _
                    rw [← hy]
                    have e := congrArg (fun x : List PkT => x[0]?) HM.out
                    simp only [List.getElem?_drop, Nat.add_zero] at e
                    rw [List.getElem?_eq_getElem hjL, List.getElem?_eq_getElem hm0] at e
                    exact Option.some.inj e
                  obtain ⟨yk, yq, yt⟩ := y
                  have HGL := Lib.hid hgl
                  have HY1 := Lib.hid y1
                  have HY2 := Lib.hid y2
                  clear hy hgl y1 y2 q0 q1
                  by_cases hs : yq = (GJ.length : Int)
                  · have e1 : (yq == (GJ.length : Int)) = true := by rw [beq_iff_eq]; exact hs
                    have HYL : Hid (held[j].2.1 = (got.length : Int) + j) := by show _ = _; rw [HYP.out]; have := HGLN.out; simp only; omega
                    clear hs
                    go_wp2_with fail
                    refine wp_region_noPanic ?_
                    refine wp_region_held_drew (S := fun u => Below wr.heap.size wr u) (by kernel_rfl) (Below.refl _ _).drew (fun hS0 => ?_)
                    have HS0 := Lib.hid hS0
                    clear hS0
                    refine take_val 0 (.pointer (some ⟨ob, 1, none⟩)) rfl (by kernel_rfl) (by kernel_rfl) (by kernel_rfl) (fun _ _ _ _ h => h) (by rfl) rfl (fun wz hS => by go_simp) HS0.out ?_
                    try simp only [List.set_cons_zero, List.set_cons_succ]
                    refine take_val 1 (.slice (some ⟨g, off, none⟩) M.length d2) rfl (by kernel_rfl) (by kernel_rfl) (by kernel_rfl) (fun _ _ _ _ h => h) (by rfl) rfl (fun wz hS => by have hz := cell_of_row _ _ 1 _ _ _ ((hS.block _ (lt_of_block HSR.out.2.2.1)).trans HSR.out.2.2.1); simp only [List.getElem?_toArray, List.getElem?_cons_zero, List.getElem?_cons_succ] at hz; go_simp) HS0.out ?_
                    try simp only [List.set_cons_zero, List.set_cons_succ]
                    refine take_val 2 (.int .i64 (M.length : Int)) rfl (by kernel_rfl) (by kernel_rfl) (by kernel_rfl) (fun _ _ _ _ h => h) (by rfl) rfl (fun wz hS => by go_simp) HS0.out ?_
                    try simp only [List.set_cons_zero, List.set_cons_succ]
                    refine take_val 3 (.bool true) rfl (by kernel_rfl) (by kernel_rfl) (by kernel_rfl) (fun _ _ _ _ h => h) (by rfl) rfl (fun wz hS => by go_simp) HS0.out ?_
                    try simp only [List.set_cons_zero, List.set_cons_succ]
                    refine take_val 4 (.bool true) rfl (by kernel_rfl) (by kernel_rfl) (by kernel_rfl) (fun _ _ _ _ h => h) (by rfl) rfl (fun wz hS => by go_simp) HS0.out ?_
                    try simp only [List.set_cons_zero, List.set_cons_succ]
                    refine take_val 5 (.pointer (some ⟨ob, 1, none⟩)) rfl (by kernel_rfl) (by kernel_rfl) (by kernel_rfl) (fun _ _ _ _ h => h) (by rfl) rfl (fun wz hS => by go_simp) HS0.out ?_
                    try simp only [List.set_cons_zero, List.set_cons_succ]
                    refine take_val 6 (.slice (some ⟨g, off, none⟩) M.length d2) rfl (by kernel_rfl) (by kernel_rfl) (by kernel_rfl) (fun _ _ _ _ h => h) (by rfl) rfl (fun wz hS => by have hz := cell_of_row _ _ 1 _ _ _ ((hS.block _ (lt_of_block HSR.out.2.2.1)).trans HSR.out.2.2.1); simp only [List.getElem?_toArray, List.getElem?_cons_zero, List.getElem?_cons_succ] at hz; go_simp) HS0.out ?_
                    try simp only [List.set_cons_zero, List.set_cons_succ]
                    refine take_val 7 (.pointer (some ⟨g, off, none⟩)) rfl (by kernel_rfl) (by kernel_rfl) (by kernel_rfl) (fun _ _ _ _ h => h) (by rfl) rfl (fun wz hS => by go_simp) HS0.out ?_
                    try simp only [List.set_cons_zero, List.set_cons_succ]
                    refine take_val 8 (.pointer (some ⟨g, off + 1, none⟩)) rfl (by kernel_rfl) (by kernel_rfl) (by kernel_rfl) (fun _ _ _ _ h => h) (by rfl) rfl (fun wz hS => by go_simp) HS0.out ?_
                    try simp only [List.set_cons_zero, List.set_cons_succ]
                    refine take_val 9 (.int .i64 yq) rfl (by kernel_rfl) (by kernel_rfl) (by kernel_rfl) (fun _ _ _ _ h => h) (by rfl) rfl (fun wz hS => by have hz := (hS.cell (p := ⟨g, off + 1, none⟩) HGL.out).trans HY1.out; go_simp) HS0.out ?_
                    try simp only [List.set_cons_zero, List.set_cons_succ]
                    refine take_val 10 (.pointer (some ⟨ob, 0, none⟩)) rfl (by kernel_rfl) (by kernel_rfl) (by kernel_rfl) (fun _ _ _ _ h => h) (by rfl) rfl (fun wz hS => by go_simp) HS0.out ?_
                    try simp only [List.set_cons_zero, List.set_cons_succ]
                    refine take_val 11 (.slice b1 GJ.length d1) rfl (by kernel_rfl) (by kernel_rfl) (by kernel_rfl) (fun _ _ _ _ h => h) (by rfl) rfl (fun wz hS => by have hz := cell_of_row _ _ 0 _ _ _ ((hS.block _ (lt_of_block HSR.out.2.2.1)).trans HSR.out.2.2.1); simp only [List.getElem?_toArray, List.getElem?_cons_zero, List.getElem?_cons_succ] at hz; go_simp) HS0.out ?_
                    try simp only [List.set_cons_zero, List.set_cons_succ]
                    refine take_val 12 (.int .i64 (GJ.length : Int)) rfl (by kernel_rfl) (by kernel_rfl) (by kernel_rfl) (fun _ _ _ _ h => h) (by rfl) rfl (fun wz hS => by go_simp) HS0.out ?_
                    try simp only [List.set_cons_zero, List.set_cons_succ]
                    refine take_val 13 (.bool true) rfl (by kernel_rfl) (by kernel_rfl) (by kernel_rfl) (fun _ _ _ _ h => h) (by rfl) rfl (fun wz hS => by go_simp) HS0.out ?_
                    try simp only [List.set_cons_zero, List.set_cons_succ]
                    refine take_val 14 (.bool true) rfl (by kernel_rfl) (by kernel_rfl) (by kernel_rfl) (fun _ _ _ _ h => h) (by rfl) rfl (fun wz hS => by go_simp) HS0.out ?_
                    try simp only [List.set_cons_zero, List.set_cons_succ]
                    refine wpAnyH_done (by kernel_rfl) ?_ _
                    refine NoPanic.normal ?_
                    have HRD := Lib.hid (HSR.out.below HS0.out)
                    have HBD := Lib.hid (Below.step HBW.out HS0.out)
                    have HPD := Lib.hid ((HS0.out.block _ (lt_of_block HPW.out)).trans HPW.out)
                    have HZD := Lib.hid ((HS0.out.block _ (lt_of_block HZW.out)).trans HZW.out)
                    have HY2D := Lib.hid ((HS0.out.cell (p := ⟨g, off + 2, none⟩) HGL.out).trans HY2.out)
                    clear HS0
                    generalize wr.drew = wd at *
                    go_wp2_with fail
                    refine wp_region_noPanic ?_
                    refine wp_region_held_drew (S := fun _ => True) (by kernel_rfl) trivial (fun _hS0 => ?_)
                    clear _hS0
                    have HRU := Lib.hid (HRD.out.below ((Below.refl _ _).drew))
                    have HBU1 := Lib.hid HBD.out.drew
                    have HPU := Lib.hid (show wd.drew.heap[w.heap.size + 1]? = _ from HPD.out)
                    have HZU := Lib.hid (show wd.drew.heap[w.heap.size + 1 + 1]? = _ from HZD.out)
                    have HY2U := Lib.hid (show wd.drew.cell? ⟨g, off + 2, none⟩ = _ from HY2D.out)
                    generalize wd.drew = u1 at *
                    have x0 := cell_of_row _ _ 0 _ _ _ HRU.out.2.2.1
                    have x1 := cell_of_row _ _ 1 _ _ _ HRU.out.2.2.1
                    simp only [List.getElem?_toArray, List.getElem?_cons_succ, List.getElem?_cons_zero] at x0 x1
                    have x0a := Lib.cell?_alloc_some (.cells #[.string yt] 9) x0
                    have y2 := HY2U.out
                    have D1 := Lib.hid (cells_new_at u1 u1.heap.size rfl #[.string yt] 9 (stC yt) rfl)
                    have HONE := Lib.hid (stC_one yt)
                    have D3 : Hid (GJ.length + 1 ≤ maxLen) := by show _ ≤ _; unfold maxLen; omega
                    have D4 : Hid ((GJ.length + 1) * 16 ≤ 140737488355328) := by show _ ≤ _; omega
                    have D5 : Hid (w1.heap.size ≤ (u1.alloc (.cells #[.string yt] 9)).heap.size) := by show _ ≤ _; have := HRU.out.2.2.2; have := lt_of_block HRU.out.2.2.1; simp; omega
                    refine take_val 0 (.pointer (some ⟨ob, 0, none⟩)) rfl (by kernel_rfl) (by kernel_rfl) (by kernel_rfl) (fun _ _ _ _ h => h) (by rfl) rfl (fun wz hS => by go_simp) trivial ?_
                    try simp only [List.set_cons_zero, List.set_cons_succ]
                    refine take_val 2 (.pointer (some ⟨ob, 1, none⟩)) rfl (by kernel_rfl) (by kernel_rfl) (by kernel_rfl) (fun _ _ _ _ h => h) (by rfl) rfl (fun wz hS => by go_simp) trivial ?_
                    try simp only [List.set_cons_zero, List.set_cons_succ]
                    refine two_ready 1 3 (by kernel_rfl) rfl rfl (by rfl) (by rfl) (fun K hK => ?_) (fun K hK => ?_)
                    · go_simp
                      refine hK.out _ _ trivial ?_
                      clear hK K
                      try simp only [Act.put, List.setIfInBounds_toArray]
                      try simp only [List.set_cons_zero, List.set_cons_succ]
                      refine one_ready 3 (by kernel_rfl) rfl (by rfl) (fun K hK => ?_)
                      go_simp
                      refine hK.out _ _ trivial ?_
                      clear hK K
                      try simp only [Act.put, List.setIfInBounds_toArray]
                      try simp only [List.set_cons_zero, List.set_cons_succ]
                      refine take_val 4 (.pointer (some ⟨g, off, none⟩)) rfl (by kernel_rfl) (by kernel_rfl) (by kernel_rfl) (fun _ _ _ _ h => h) (by rfl) rfl (fun wz hS => by go_simp) trivial ?_
                      try simp only [List.set_cons_zero, List.set_cons_succ]
                      refine take_val 5 (.pointer (some ⟨g, off + 2, none⟩)) rfl (by kernel_rfl) (by kernel_rfl) (by kernel_rfl) (fun _ _ _ _ h => h) (by rfl) rfl (fun wz hS => by go_simp) trivial ?_
                      try simp only [List.set_cons_zero, List.set_cons_succ]
                      refine one_ready 6 (by kernel_rfl) rfl (by rfl) (fun K hK => ?_)
                      go_simp
                      refine hK.out _ _ trivial ?_
                      clear hK K
                      try simp only [Act.put, List.setIfInBounds_toArray]
                      try simp only [List.set_cons_zero, List.set_cons_succ]
                      refine one_ready 7 (by kernel_rfl) rfl (by rfl) (fun K hK => ?_)
                      go_simp
                      refine hK.out _ _ trivial ?_
                      clear hK K
                      try simp only [Act.put, List.setIfInBounds_toArray]
                      try simp only [List.set_cons_zero, List.set_cons_succ]
                      refine one_ready 8 (by kernel_rfl) rfl (by rfl) (fun K hK => ?_)
                      refine wp_append_own _ _ _ 22 rfl w1.heap.size 9 i0 (.string ⟨#[]⟩) 1 16 Try.underlying22 hi0 hz0 hz1 hz2 rfl (by decide) _ GJ.length (GJ.flatMap stC) rfl (HRU.out.1.alloc (.cells #[.string yt] 9)) ⟨u1.heap.size, 0, none⟩ 1 1 (stC yt) rfl rfl D1.out HONE.out D3.out D4.out D5.out (fun v' w' hown' hgrow _ => ?_)
                      obtain ⟨oa, oc, rfl⟩ := own_formK hown'
                      have HOWN : Hid (w'.ownsRow w1.heap.size 9 1 (.slice oa (GJ ++ [yt]).length oc) (GJ ++ [yt]).length ((GJ ++ [yt]).flatMap stC)) := by
                        show w'.ownsRow _ _ _ _ _ _
                        rw [List.length_append, List.flatMap_append, List.flatMap_singleton]
                        exact hown'
                      have HRA := Lib.hid (HRU.out.below ((Below.refl u1.heap.size u1).alloc (Nat.le_refl _) (.cells #[.string yt] 9)))
                      have HGR := Lib.hid hgrow
                      have HROWW := Lib.hid ((hgrow.block ob (lt_of_block HRA.out.2.2.1) (own_neqK HRA.out.1 HRA.out.2.2.1 (by decide))).trans HRA.out.2.2.1)
                      have z0 := cell_of_row _ _ 0 _ _ _ HROWW.out
                      have zf := frozen_of_row _ _ 0 _ _ HROWW.out
                      simp only [List.getElem?_toArray, List.getElem?_cons_succ, List.getElem?_cons_zero] at z0
                      clear hown' hgrow
                      refine hK.out _ _ trivial ?_
                      clear hK K
                      try simp only [Act.put, List.setIfInBounds_toArray]
                      try simp only [List.set_cons_zero, List.set_cons_succ]
                      refine take_val 9 (.pointer (some ⟨ob, 0, none⟩)) rfl (by kernel_rfl) (by kernel_rfl) (by kernel_rfl) (fun _ _ _ _ h => h) (by rfl) rfl (fun wz hS => by go_simp) trivial ?_
                      try simp only [List.set_cons_zero, List.set_cons_succ]
                      refine one_ready 10 (by kernel_rfl) rfl (by rfl) (fun K hK => ?_)
                      go_simp
                      refine hK.out _ _ trivial ?_
                      clear hK K
                      try simp only [Act.put, List.setIfInBounds_toArray]
                      try simp only [List.set_cons_zero, List.set_cons_succ]
                      refine wpAnyH_done (by kernel_rfl) ?_ _
                      refine NoPanic.normal ?_
                      have hstr := HRA.out.strings HGR.out HOWN.out
                      have hlen : (GJ ++ [yt]).length = GJ.length + 1 := by simp
                      have HRN : Hid (RSt w1.heap.size ob oa oc (some ⟨g, off, none⟩) d2 (GJ ++ [yt]) M (w'.setCell ⟨ob, 0, none⟩ (.slice oa (GJ.length + 1) oc))) := by
                        show RSt _ _ _ _ _ _ _ _ _
                        rw [← hlen]
                        exact hstr
                      clear hlen
                      have v1 := cell_of_row _ _ 1 _ _ _ HRN.out.2.2.1
                      have vf := frozen_of_row _ _ 1 _ _ HRN.out.2.2.1
                      simp only [List.getElem?_toArray, List.getElem?_cons_succ, List.getElem?_cons_zero] at v1
                      have HBA := Lib.hid (below_own (HBU1.out.alloc HBU1.out.size (.cells #[.string yt] 9)) HGR.out (by have := HBU1.out.size; have := HSZ1.out; simp; omega) (HRU.out.1.alloc (.cells #[.string yt] 9)) (by have := HSZ1.out; omega))
                      have HBN := Lib.hid (HBA.out.setCell (p := ⟨ob, 0, none⟩) (by have := HSR.out.2.2.2; have := HSZ1.out; show _ ≤ ob; omega) (.slice oa (GJ.length + 1) oc))
                      have hk1 : w.heap.size + 1 + 1 < w1.heap.size := by have := HSZ1.out; omega
                      have HP1N := Lib.hid ((Below.heap_setCell w' ⟨ob, 0, none⟩ (.slice oa (GJ.length + 1) oc) (w.heap.size + 1) (by have := HSR.out.2.2.2; show _ ≠ ob; omega)).trans ((HGR.out.block _ (by have := lt_of_block HPU.out; simp; omega) (ownblock_ne HRA.out.1 (by omega))).trans ((Below.heap_alloc u1 (.cells #[.string yt] 9) _ (lt_of_block HPU.out)).trans HPU.out)))
                      have HP2N := Lib.hid ((Below.heap_setCell w' ⟨ob, 0, none⟩ (.slice oa (GJ.length + 1) oc) (w.heap.size + 1 + 1) (by have := HSR.out.2.2.2; show _ ≠ ob; omega)).trans ((HGR.out.block _ (by have := lt_of_block HZU.out; simp; omega) (ownblock_ne HRA.out.1 (by omega))).trans ((Below.heap_alloc u1 (.cells #[.string yt] 9) _ (lt_of_block HZU.out)).trans HZU.out)))
                      clear hstr z0 zf hk1
                      have HNX : Hid (∀ i (h : i < held.length), i < j + 1 → held[i].2.1 = (got.length : Int) + i) := fun i h1 h2 => by
                        rcases Nat.lt_or_ge i j with h3 | h3
                        · exact HDR.out i h1 h3
                        · obtain rfl : i = j := by omega
                          exact HYL.out
                      have HGN : Hid (got ++ (held.take (j + 1)).map (fun q => q.2.2) = GJ ++ [yt]) := by
                        show _ = _
                        rw [List.take_succ_eq_append_getElem hjL, List.map_append, ← List.append_assoc, HGJ.out]
                        have := HYP.out
                        simp only [this, List.map_cons, List.map_nil]
                      have HMN : Hid (held.drop (j + 1) = M.drop 1) := by
                        show _ = _
                        rw [← HM.out, List.drop_drop]
                      have HML1 : Hid ((M.drop 1).length = M.length - 1) := List.length_drop ..
                      have c1' : (1 : Int) ≤ (M.length : Int) := by omega
                      have HTL := Lib.hid (HRN.out.2.1.1.tail (c := pkC))
                      by_cases hd : d2 = 1
                      · have hM1 : M.length = 1 := by have := HRN.out.2.1.2.2.1; omega
                        have HRF := Lib.hid (HRN.out.row (b2 := some ⟨g, off, none⟩) (M := M.drop 1) (d2 := 0) ⟨by rw [List.drop_of_length_le (by omega)]; exact SAt.nil, HRN.out.2.1.2.1, by rw [HML1.out]; omega, by omega⟩)
                        rw [HML1.out, show M.length - 1 = 0 by omega] at HRF
                        subst hd
                        go_wp2_with fail
                        go_roundw
                        case rel => exact ⟨j + 1, oa, oc, _, _, hjL, Lib.hid (by rw [HGN.out, HMN.out]; exact HRF.out), Lib.hid (HBN.out.setCell (p := ⟨ob, 1, none⟩) (by have := HSR.out.2.2.2; have := HSZ1.out; show _ ≤ ob; omega) _), Lib.hid ((Below.heap_setCell _ ⟨ob, 1, none⟩ _ (w.heap.size + 1) (by have := HSR.out.2.2.2; have := HSZ1.out; show _ ≠ ob; omega)).trans HP1N.out), Lib.hid ((Below.heap_setCell _ ⟨ob, 1, none⟩ _ (w.heap.size + 1 + 1) (by have := HSR.out.2.2.2; have := HSZ1.out; show _ ≠ ob; omega)).trans HP2N.out), HNX⟩
                        case measure =>
                          have e2 := cell_of_row _ _ 1 _ _ _ HRF.out.2.2.1
                          have e1 := cell_of_row _ _ 1 _ _ _ HSR.out.2.2.1
                          simp only [List.getElem?_toArray, List.getElem?_cons_succ, List.getElem?_cons_zero] at e1 e2
                          rw [e1, e2]
                          simp only [Option.getD_some, lenOfV]
                          have := HML1.out
                          omega
                      · have hd' : ¬ (d2 = 1) := hd
                        have HRF := Lib.hid (HRN.out.row (b2 := some ⟨g, off + 3, none⟩) (M := M.drop 1) (d2 := d2 - 1) ⟨HTL.out, fun ad e => by injection e with e; subst e; exact HRN.out.2.1.2.1 ⟨g, off, none⟩ rfl, by rw [HML1.out]; have := HRN.out.2.1.2.2.1; omega, by have := HRN.out.2.1.2.2.2; omega⟩)
                        rw [HML1.out] at HRF
                        go_wp2_with fail
                        go_roundw
                        case rel => exact ⟨j + 1, oa, oc, _, _, hjL, Lib.hid (by rw [HGN.out, HMN.out]; exact HRF.out), Lib.hid (HBN.out.setCell (p := ⟨ob, 1, none⟩) (by have := HSR.out.2.2.2; have := HSZ1.out; show _ ≤ ob; omega) _), Lib.hid ((Below.heap_setCell _ ⟨ob, 1, none⟩ _ (w.heap.size + 1) (by have := HSR.out.2.2.2; have := HSZ1.out; show _ ≠ ob; omega)).trans HP1N.out), Lib.hid ((Below.heap_setCell _ ⟨ob, 1, none⟩ _ (w.heap.size + 1 + 1) (by have := HSR.out.2.2.2; have := HSZ1.out; show _ ≠ ob; omega)).trans HP2N.out), HNX⟩
                        case measure =>
                          have e2 := cell_of_row _ _ 1 _ _ _ HRF.out.2.2.1
                          have e1 := cell_of_row _ _ 1 _ _ _ HSR.out.2.2.1
                          simp only [List.getElem?_toArray, List.getElem?_cons_succ, List.getElem?_cons_zero] at e1 e2
                          rw [e1, e2]
                          simp only [Option.getD_some, lenOfV]
                          have := HML1.out
                          omega
                    · go_simp
                      refine hK.out _ _ trivial ?_
                      clear hK K
                      try simp only [Act.put, List.setIfInBounds_toArray]
                      try simp only [List.set_cons_zero, List.set_cons_succ]
                      refine take_val 4 (.pointer (some ⟨g, off, none⟩)) rfl (by kernel_rfl) (by kernel_rfl) (by kernel_rfl) (fun _ _ _ _ h => h) (by rfl) rfl (fun wz hS => by go_simp) trivial ?_
                      try simp only [List.set_cons_zero, List.set_cons_succ]
                      refine take_val 5 (.pointer (some ⟨g, off + 2, none⟩)) rfl (by kernel_rfl) (by kernel_rfl) (by kernel_rfl) (fun _ _ _ _ h => h) (by rfl) rfl (fun wz hS => by go_simp) trivial ?_
                      try simp only [List.set_cons_zero, List.set_cons_succ]
                      refine two_ready 1 6 (by kernel_rfl) rfl rfl (by rfl) (by rfl) (fun K hK => ?_) (fun K hK => ?_)
                      · go_simp
                        refine hK.out _ _ trivial ?_
                        clear hK K
                        try simp only [Act.put, List.setIfInBounds_toArray]
                        try simp only [List.set_cons_zero, List.set_cons_succ]
                        refine one_ready 6 (by kernel_rfl) rfl (by rfl) (fun K hK => ?_)
                        go_simp
                        refine hK.out _ _ trivial ?_
                        clear hK K
                        try simp only [Act.put, List.setIfInBounds_toArray]
                        try simp only [List.set_cons_zero, List.set_cons_succ]
                        refine one_ready 7 (by kernel_rfl) rfl (by rfl) (fun K hK => ?_)
                        go_simp
                        refine hK.out _ _ trivial ?_
                        clear hK K
                        try simp only [Act.put, List.setIfInBounds_toArray]
                        try simp only [List.set_cons_zero, List.set_cons_succ]
                        refine one_ready 8 (by kernel_rfl) rfl (by rfl) (fun K hK => ?_)
                        refine wp_append_own _ _ _ 22 rfl w1.heap.size 9 i0 (.string ⟨#[]⟩) 1 16 Try.underlying22 hi0 hz0 hz1 hz2 rfl (by decide) _ GJ.length (GJ.flatMap stC) rfl (HRU.out.1.alloc (.cells #[.string yt] 9)) ⟨u1.heap.size, 0, none⟩ 1 1 (stC yt) rfl rfl D1.out HONE.out D3.out D4.out D5.out (fun v' w' hown' hgrow _ => ?_)
                        obtain ⟨oa, oc, rfl⟩ := own_formK hown'
                        have HOWN : Hid (w'.ownsRow w1.heap.size 9 1 (.slice oa (GJ ++ [yt]).length oc) (GJ ++ [yt]).length ((GJ ++ [yt]).flatMap stC)) := by
                          show w'.ownsRow _ _ _ _ _ _
                          rw [List.length_append, List.flatMap_append, List.flatMap_singleton]
                          exact hown'
                        have HRA := Lib.hid (HRU.out.below ((Below.refl u1.heap.size u1).alloc (Nat.le_refl _) (.cells #[.string yt] 9)))
                        have HGR := Lib.hid hgrow
                        have HROWW := Lib.hid ((hgrow.block ob (lt_of_block HRA.out.2.2.1) (own_neqK HRA.out.1 HRA.out.2.2.1 (by decide))).trans HRA.out.2.2.1)
                        have z0 := cell_of_row _ _ 0 _ _ _ HROWW.out
                        have zf := frozen_of_row _ _ 0 _ _ HROWW.out
                        simp only [List.getElem?_toArray, List.getElem?_cons_succ, List.getElem?_cons_zero] at z0
                        clear hown' hgrow
                        refine hK.out _ _ trivial ?_
                        clear hK K
                        try simp only [Act.put, List.setIfInBounds_toArray]
                        try simp only [List.set_cons_zero, List.set_cons_succ]
                        refine take_val 9 (.pointer (some ⟨ob, 0, none⟩)) rfl (by kernel_rfl) (by kernel_rfl) (by kernel_rfl) (fun _ _ _ _ h => h) (by rfl) rfl (fun wz hS => by go_simp) trivial ?_
                        try simp only [List.set_cons_zero, List.set_cons_succ]
                        refine one_ready 10 (by kernel_rfl) rfl (by rfl) (fun K hK => ?_)
                        go_simp
                        refine hK.out _ _ trivial ?_
                        clear hK K
                        try simp only [Act.put, List.setIfInBounds_toArray]
                        try simp only [List.set_cons_zero, List.set_cons_succ]
                        refine wpAnyH_done (by kernel_rfl) ?_ _
                        refine NoPanic.normal ?_
                        have hstr := HRA.out.strings HGR.out HOWN.out
                        have hlen : (GJ ++ [yt]).length = GJ.length + 1 := by simp
                        have HRN : Hid (RSt w1.heap.size ob oa oc (some ⟨g, off, none⟩) d2 (GJ ++ [yt]) M (w'.setCell ⟨ob, 0, none⟩ (.slice oa (GJ.length + 1) oc))) := by
                          show RSt _ _ _ _ _ _ _ _ _
                          rw [← hlen]
                          exact hstr
                        clear hlen
                        have v1 := cell_of_row _ _ 1 _ _ _ HRN.out.2.2.1
                        have vf := frozen_of_row _ _ 1 _ _ HRN.out.2.2.1
                        simp only [List.getElem?_toArray, List.getElem?_cons_succ, List.getElem?_cons_zero] at v1
                        have HBA := Lib.hid (below_own (HBU1.out.alloc HBU1.out.size (.cells #[.string yt] 9)) HGR.out (by have := HBU1.out.size; have := HSZ1.out; simp; omega) (HRU.out.1.alloc (.cells #[.string yt] 9)) (by have := HSZ1.out; omega))
                        have HBN := Lib.hid (HBA.out.setCell (p := ⟨ob, 0, none⟩) (by have := HSR.out.2.2.2; have := HSZ1.out; show _ ≤ ob; omega) (.slice oa (GJ.length + 1) oc))
                        have hk1 : w.heap.size + 1 + 1 < w1.heap.size := by have := HSZ1.out; omega
                        have HP1N := Lib.hid ((Below.heap_setCell w' ⟨ob, 0, none⟩ (.slice oa (GJ.length + 1) oc) (w.heap.size + 1) (by have := HSR.out.2.2.2; show _ ≠ ob; omega)).trans ((HGR.out.block _ (by have := lt_of_block HPU.out; simp; omega) (ownblock_ne HRA.out.1 (by omega))).trans ((Below.heap_alloc u1 (.cells #[.string yt] 9) _ (lt_of_block HPU.out)).trans HPU.out)))
                        have HP2N := Lib.hid ((Below.heap_setCell w' ⟨ob, 0, none⟩ (.slice oa (GJ.length + 1) oc) (w.heap.size + 1 + 1) (by have := HSR.out.2.2.2; show _ ≠ ob; omega)).trans ((HGR.out.block _ (by have := lt_of_block HZU.out; simp; omega) (ownblock_ne HRA.out.1 (by omega))).trans ((Below.heap_alloc u1 (.cells #[.string yt] 9) _ (lt_of_block HZU.out)).trans HZU.out)))
                        clear hstr z0 zf hk1
                        have HNX : Hid (∀ i (h : i < held.length), i < j + 1 → held[i].2.1 = (got.length : Int) + i) := fun i h1 h2 => by
                          rcases Nat.lt_or_ge i j with h3 | h3
                          · exact HDR.out i h1 h3
                          · obtain rfl : i = j := by omega
                            exact HYL.out
                        have HGN : Hid (got ++ (held.take (j + 1)).map (fun q => q.2.2) = GJ ++ [yt]) := by
                          show _ = _
                          rw [List.take_succ_eq_append_getElem hjL, List.map_append, ← List.append_assoc, HGJ.out]
                          have := HYP.out
                          simp only [this, List.map_cons, List.map_nil]
                        have HMN : Hid (held.drop (j + 1) = M.drop 1) := by
                          show _ = _
                          rw [← HM.out, List.drop_drop]
                        have HML1 : Hid ((M.drop 1).length = M.length - 1) := List.length_drop ..
                        have c1' : (1 : Int) ≤ (M.length : Int) := by omega
                        have HTL := Lib.hid (HRN.out.2.1.1.tail (c := pkC))
                        by_cases hd : d2 = 1
                        · have hM1 : M.length = 1 := by have := HRN.out.2.1.2.2.1; omega
                          have HRF := Lib.hid (HRN.out.row (b2 := some ⟨g, off, none⟩) (M := M.drop 1) (d2 := 0) ⟨by rw [List.drop_of_length_le (by omega)]; exact SAt.nil, HRN.out.2.1.2.1, by rw [HML1.out]; omega, by omega⟩)
                          rw [HML1.out, show M.length - 1 = 0 by omega] at HRF
                          subst hd
                          go_wp2_with fail
                          go_roundw
                          case rel => exact ⟨j + 1, oa, oc, _, _, hjL, Lib.hid (by rw [HGN.out, HMN.out]; exact HRF.out), Lib.hid (HBN.out.setCell (p := ⟨ob, 1, none⟩) (by have := HSR.out.2.2.2; have := HSZ1.out; show _ ≤ ob; omega) _), Lib.hid ((Below.heap_setCell _ ⟨ob, 1, none⟩ _ (w.heap.size + 1) (by have := HSR.out.2.2.2; have := HSZ1.out; show _ ≠ ob; omega)).trans HP1N.out), Lib.hid ((Below.heap_setCell _ ⟨ob, 1, none⟩ _ (w.heap.size + 1 + 1) (by have := HSR.out.2.2.2; have := HSZ1.out; show _ ≠ ob; omega)).trans HP2N.out), HNX⟩
                          case measure =>
                            have e2 := cell_of_row _ _ 1 _ _ _ HRF.out.2.2.1
                            have e1 := cell_of_row _ _ 1 _ _ _ HSR.out.2.2.1
                            simp only [List.getElem?_toArray, List.getElem?_cons_succ, List.getElem?_cons_zero] at e1 e2
                            rw [e1, e2]
                            simp only [Option.getD_some, lenOfV]
                            have := HML1.out
                            omega
                        · have hd' : ¬ (d2 = 1) := hd
                          have HRF := Lib.hid (HRN.out.row (b2 := some ⟨g, off + 3, none⟩) (M := M.drop 1) (d2 := d2 - 1) ⟨HTL.out, fun ad e => by injection e with e; subst e; exact HRN.out.2.1.2.1 ⟨g, off, none⟩ rfl, by rw [HML1.out]; have := HRN.out.2.1.2.2.1; omega, by have := HRN.out.2.1.2.2.2; omega⟩)
                          rw [HML1.out] at HRF
                          go_wp2_with fail
                          go_roundw
                          case rel => exact ⟨j + 1, oa, oc, _, _, hjL, Lib.hid (by rw [HGN.out, HMN.out]; exact HRF.out), Lib.hid (HBN.out.setCell (p := ⟨ob, 1, none⟩) (by have := HSR.out.2.2.2; have := HSZ1.out; show _ ≤ ob; omega) _), Lib.hid ((Below.heap_setCell _ ⟨ob, 1, none⟩ _ (w.heap.size + 1) (by have := HSR.out.2.2.2; have := HSZ1.out; show _ ≠ ob; omega)).trans HP1N.out), Lib.hid ((Below.heap_setCell _ ⟨ob, 1, none⟩ _ (w.heap.size + 1 + 1) (by have := HSR.out.2.2.2; have := HSZ1.out; show _ ≠ ob; omega)).trans HP2N.out), HNX⟩
                          case measure =>
                            have e2 := cell_of_row _ _ 1 _ _ _ HRF.out.2.2.1
                            have e1 := cell_of_row _ _ 1 _ _ _ HSR.out.2.2.1
                            simp only [List.getElem?_toArray, List.getElem?_cons_succ, List.getElem?_cons_zero] at e1 e2
                            rw [e1, e2]
                            simp only [Option.getD_some, lenOfV]
                            have := HML1.out
                            omega
                      · go_simp
                        refine hK.out _ _ trivial ?_
                        clear hK K
                        try simp only [Act.put, List.setIfInBounds_toArray]
                        try simp only [List.set_cons_zero, List.set_cons_succ]
                        refine two_ready 1 7 (by kernel_rfl) rfl rfl (by rfl) (by rfl) (fun K hK => ?_) (fun K hK => ?_)
                        · go_simp
                          refine hK.out _ _ trivial ?_
                          clear hK K
                          try simp only [Act.put, List.setIfInBounds_toArray]
                          try simp only [List.set_cons_zero, List.set_cons_succ]
                          refine one_ready 7 (by kernel_rfl) rfl (by rfl) (fun K hK => ?_)
                          go_simp
                          refine hK.out _ _ trivial ?_
                          clear hK K
                          try simp only [Act.put, List.setIfInBounds_toArray]
                          try simp only [List.set_cons_zero, List.set_cons_succ]
                          refine one_ready 8 (by kernel_rfl) rfl (by rfl) (fun K hK => ?_)
                          refine wp_append_own _ _ _ 22 rfl w1.heap.size 9 i0 (.string ⟨#[]⟩) 1 16 Try.underlying22 hi0 hz0 hz1 hz2 rfl (by decide) _ GJ.length (GJ.flatMap stC) rfl (HRU.out.1.alloc (.cells #[.string yt] 9)) ⟨u1.heap.size, 0, none⟩ 1 1 (stC yt) rfl rfl D1.out HONE.out D3.out D4.out D5.out (fun v' w' hown' hgrow _ => ?_)
                          obtain ⟨oa, oc, rfl⟩ := own_formK hown'
                          have HOWN : Hid (w'.ownsRow w1.heap.size 9 1 (.slice oa (GJ ++ [yt]).length oc) (GJ ++ [yt]).length ((GJ ++ [yt]).flatMap stC)) := by
                            show w'.ownsRow _ _ _ _ _ _
                            rw [List.length_append, List.flatMap_append, List.flatMap_singleton]
                            exact hown'
                          have HRA := Lib.hid (HRU.out.below ((Below.refl u1.heap.size u1).alloc (Nat.le_refl _) (.cells #[.string yt] 9)))
                          have HGR := Lib.hid hgrow
                          have HROWW := Lib.hid ((hgrow.block ob (lt_of_block HRA.out.2.2.1) (own_neqK HRA.out.1 HRA.out.2.2.1 (by decide))).trans HRA.out.2.2.1)
                          have z0 := cell_of_row _ _ 0 _ _ _ HROWW.out
                          have zf := frozen_of_row _ _ 0 _ _ HROWW.out
                          simp only [List.getElem?_toArray, List.getElem?_cons_succ, List.getElem?_cons_zero] at z0
                          clear hown' hgrow
                          refine hK.out _ _ trivial ?_
                          clear hK K
                          try simp only [Act.put, List.setIfInBounds_toArray]
                          try simp only [List.set_cons_zero, List.set_cons_succ]
                          refine take_val 9 (.pointer (some ⟨ob, 0, none⟩)) rfl (by kernel_rfl) (by kernel_rfl) (by kernel_rfl) (fun _ _ _ _ h => h) (by rfl) rfl (fun wz hS => by go_simp) trivial ?_
                          try simp only [List.set_cons_zero, List.set_cons_succ]
                          refine one_ready 10 (by kernel_rfl) rfl (by rfl) (fun K hK => ?_)
                          go_simp
                          refine hK.out _ _ trivial ?_
                          clear hK K
                          try simp only [Act.put, List.setIfInBounds_toArray]
                          try simp only [List.set_cons_zero, List.set_cons_succ]
                          refine wpAnyH_done (by kernel_rfl) ?_ _
                          refine NoPanic.normal ?_
                          have hstr := HRA.out.strings HGR.out HOWN.out
                          have hlen : (GJ ++ [yt]).length = GJ.length + 1 := by simp
                          have HRN : Hid (RSt w1.heap.size ob oa oc (some ⟨g, off, none⟩) d2 (GJ ++ [yt]) M (w'.setCell ⟨ob, 0, none⟩ (.slice oa (GJ.length + 1) oc))) := by
                            show RSt _ _ _ _ _ _ _ _ _
                            rw [← hlen]
                            exact hstr
                          clear hlen
                          have v1 := cell_of_row _ _ 1 _ _ _ HRN.out.2.2.1
                          have vf := frozen_of_row _ _ 1 _ _ HRN.out.2.2.1
                          simp only [List.getElem?_toArray, List.getElem?_cons_succ, List.getElem?_cons_zero] at v1
                          have HBA := Lib.hid (below_own (HBU1.out.alloc HBU1.out.size (.cells #[.string yt] 9)) HGR.out (by have := HBU1.out.size; have := HSZ1.out; simp; omega) (HRU.out.1.alloc (.cells #[.string yt] 9)) (by have := HSZ1.out; omega))
                          have HBN := Lib.hid (HBA.out.setCell (p := ⟨ob, 0, none⟩) (by have := HSR.out.2.2.2; have := HSZ1.out; show _ ≤ ob; omega) (.slice oa (GJ.length + 1) oc))
                          have hk1 : w.heap.size + 1 + 1 < w1.heap.size := by have := HSZ1.out; omega
                          have HP1N := Lib.hid ((Below.heap_setCell w' ⟨ob, 0, none⟩ (.slice oa (GJ.length + 1) oc) (w.heap.size + 1) (by have := HSR.out.2.2.2; show _ ≠ ob; omega)).trans ((HGR.out.block _ (by have := lt_of_block HPU.out; simp; omega) (ownblock_ne HRA.out.1 (by omega))).trans ((Below.heap_alloc u1 (.cells #[.string yt] 9) _ (lt_of_block HPU.out)).trans HPU.out)))
                          have HP2N := Lib.hid ((Below.heap_setCell w' ⟨ob, 0, none⟩ (.slice oa (GJ.length + 1) oc) (w.heap.size + 1 + 1) (by have := HSR.out.2.2.2; show _ ≠ ob; omega)).trans ((HGR.out.block _ (by have := lt_of_block HZU.out; simp; omega) (ownblock_ne HRA.out.1 (by omega))).trans ((Below.heap_alloc u1 (.cells #[.string yt] 9) _ (lt_of_block HZU.out)).trans HZU.out)))
                          clear hstr z0 zf hk1
                          have HNX : Hid (∀ i (h : i < held.length), i < j + 1 → held[i].2.1 = (got.length : Int) + i) := fun i h1 h2 => by
                            rcases Nat.lt_or_ge i j with h3 | h3
                            · exact HDR.out i h1 h3
                            · obtain rfl : i = j := by omega
                              exact HYL.out
                          have HGN : Hid (got ++ (held.take (j + 1)).map (fun q => q.2.2) = GJ ++ [yt]) := by
                            show _ = _
                            rw [List.take_succ_eq_append_getElem hjL, List.map_append, ← List.append_assoc, HGJ.out]
                            have := HYP.out
                            simp only [this, List.map_cons, List.map_nil]
                          have HMN : Hid (held.drop (j + 1) = M.drop 1) := by
                            show _ = _
                            rw [← HM.out, List.drop_drop]
                          have HML1 : Hid ((M.drop 1).length = M.length - 1) := List.length_drop ..
                          have c1' : (1 : Int) ≤ (M.length : Int) := by omega
                          have HTL := Lib.hid (HRN.out.2.1.1.tail (c := pkC))
                          by_cases hd : d2 = 1
                          · have hM1 : M.length = 1 := by have := HRN.out.2.1.2.2.1; omega
                            have HRF := Lib.hid (HRN.out.row (b2 := some ⟨g, off, none⟩) (M := M.drop 1) (d2 := 0) ⟨by rw [List.drop_of_length_le (by omega)]; exact SAt.nil, HRN.out.2.1.2.1, by rw [HML1.out]; omega, by omega⟩)
                            rw [HML1.out, show M.length - 1 = 0 by omega] at HRF
                            subst hd
                            go_wp2_with fail
                            go_roundw
                            case rel => exact ⟨j + 1, oa, oc, _, _, hjL, Lib.hid (by rw [HGN.out, HMN.out]; exact HRF.out), Lib.hid (HBN.out.setCell (p := ⟨ob, 1, none⟩) (by have := HSR.out.2.2.2; have := HSZ1.out; show _ ≤ ob; omega) _), Lib.hid ((Below.heap_setCell _ ⟨ob, 1, none⟩ _ (w.heap.size + 1) (by have := HSR.out.2.2.2; have := HSZ1.out; show _ ≠ ob; omega)).trans HP1N.out), Lib.hid ((Below.heap_setCell _ ⟨ob, 1, none⟩ _ (w.heap.size + 1 + 1) (by have := HSR.out.2.2.2; have := HSZ1.out; show _ ≠ ob; omega)).trans HP2N.out), HNX⟩
                            case measure =>
                              have e2 := cell_of_row _ _ 1 _ _ _ HRF.out.2.2.1
                              have e1 := cell_of_row _ _ 1 _ _ _ HSR.out.2.2.1
                              simp only [List.getElem?_toArray, List.getElem?_cons_succ, List.getElem?_cons_zero] at e1 e2
                              rw [e1, e2]
                              simp only [Option.getD_some, lenOfV]
                              have := HML1.out
                              omega
                          · have hd' : ¬ (d2 = 1) := hd
                            have HRF := Lib.hid (HRN.out.row (b2 := some ⟨g, off + 3, none⟩) (M := M.drop 1) (d2 := d2 - 1) ⟨HTL.out, fun ad e => by injection e with e; subst e; exact HRN.out.2.1.2.1 ⟨g, off, none⟩ rfl, by rw [HML1.out]; have := HRN.out.2.1.2.2.1; omega, by have := HRN.out.2.1.2.2.2; omega⟩)
                            rw [HML1.out] at HRF
                            go_wp2_with fail
                            go_roundw
                            case rel => exact ⟨j + 1, oa, oc, _, _, hjL, Lib.hid (by rw [HGN.out, HMN.out]; exact HRF.out), Lib.hid (HBN.out.setCell (p := ⟨ob, 1, none⟩) (by have := HSR.out.2.2.2; have := HSZ1.out; show _ ≤ ob; omega) _), Lib.hid ((Below.heap_setCell _ ⟨ob, 1, none⟩ _ (w.heap.size + 1) (by have := HSR.out.2.2.2; have := HSZ1.out; show _ ≠ ob; omega)).trans HP1N.out), Lib.hid ((Below.heap_setCell _ ⟨ob, 1, none⟩ _ (w.heap.size + 1 + 1) (by have := HSR.out.2.2.2; have := HSZ1.out; show _ ≠ ob; omega)).trans HP2N.out), HNX⟩
                            case measure =>
                              have e2 := cell_of_row _ _ 1 _ _ _ HRF.out.2.2.1
                              have e1 := cell_of_row _ _ 1 _ _ _ HSR.out.2.2.1
                              simp only [List.getElem?_toArray, List.getElem?_cons_succ, List.getElem?_cons_zero] at e1 e2
                              rw [e1, e2]
                              simp only [Option.getD_some, lenOfV]
                              have := HML1.out
                              omega
                        · go_simp
                          refine hK.out _ _ trivial ?_
                          clear hK K
                          try simp only [Act.put, List.setIfInBounds_toArray]
                          try simp only [List.set_cons_zero, List.set_cons_succ]
                          refine one_ready 1 (by kernel_rfl) rfl (by rfl) (fun K hK => ?_)
                          go_simp
                          refine hK.out _ _ trivial ?_
                          clear hK K
                          try simp only [Act.put, List.setIfInBounds_toArray]
                          try simp only [List.set_cons_zero, List.set_cons_succ]
                          refine one_ready 8 (by kernel_rfl) rfl (by rfl) (fun K hK => ?_)
                          refine wp_append_own _ _ _ 22 rfl w1.heap.size 9 i0 (.string ⟨#[]⟩) 1 16 Try.underlying22 hi0 hz0 hz1 hz2 rfl (by decide) _ GJ.length (GJ.flatMap stC) rfl (HRU.out.1.alloc (.cells #[.string yt] 9)) ⟨u1.heap.size, 0, none⟩ 1 1 (stC yt) rfl rfl D1.out HONE.out D3.out D4.out D5.out (fun v' w' hown' hgrow _ => ?_)
                          obtain ⟨oa, oc, rfl⟩ := own_formK hown'
                          have HOWN : Hid (w'.ownsRow w1.heap.size 9 1 (.slice oa (GJ ++ [yt]).length oc) (GJ ++ [yt]).length ((GJ ++ [yt]).flatMap stC)) := by
                            show w'.ownsRow _ _ _ _ _ _
                            rw [List.length_append, List.flatMap_append, List.flatMap_singleton]
                            exact hown'
                          have HRA := Lib.hid (HRU.out.below ((Below.refl u1.heap.size u1).alloc (Nat.le_refl _) (.cells #[.string yt] 9)))
                          have HGR := Lib.hid hgrow
                          have HROWW := Lib.hid ((hgrow.block ob (lt_of_block HRA.out.2.2.1) (own_neqK HRA.out.1 HRA.out.2.2.1 (by decide))).trans HRA.out.2.2.1)
                          have z0 := cell_of_row _ _ 0 _ _ _ HROWW.out
                          have zf := frozen_of_row _ _ 0 _ _ HROWW.out
                          simp only [List.getElem?_toArray, List.getElem?_cons_succ, List.getElem?_cons_zero] at z0
                          clear hown' hgrow
                          refine hK.out _ _ trivial ?_
                          clear hK K
                          try simp only [Act.put, List.setIfInBounds_toArray]
                          try simp only [List.set_cons_zero, List.set_cons_succ]
                          refine take_val 9 (.pointer (some ⟨ob, 0, none⟩)) rfl (by kernel_rfl) (by kernel_rfl) (by kernel_rfl) (fun _ _ _ _ h => h) (by rfl) rfl (fun wz hS => by go_simp) trivial ?_
                          try simp only [List.set_cons_zero, List.set_cons_succ]
                          refine one_ready 10 (by kernel_rfl) rfl (by rfl) (fun K hK => ?_)
                          go_simp
                          refine hK.out _ _ trivial ?_
                          clear hK K
                          try simp only [Act.put, List.setIfInBounds_toArray]
                          try simp only [List.set_cons_zero, List.set_cons_succ]
                          refine wpAnyH_done (by kernel_rfl) ?_ _
                          refine NoPanic.normal ?_
                          have hstr := HRA.out.strings HGR.out HOWN.out
                          have hlen : (GJ ++ [yt]).length = GJ.length + 1 := by simp
                          have HRN : Hid (RSt w1.heap.size ob oa oc (some ⟨g, off, none⟩) d2 (GJ ++ [yt]) M (w'.setCell ⟨ob, 0, none⟩ (.slice oa (GJ.length + 1) oc))) := by
                            show RSt _ _ _ _ _ _ _ _ _
                            rw [← hlen]
                            exact hstr
                          clear hlen
                          have v1 := cell_of_row _ _ 1 _ _ _ HRN.out.2.2.1
                          have vf := frozen_of_row _ _ 1 _ _ HRN.out.2.2.1
                          simp only [List.getElem?_toArray, List.getElem?_cons_succ, List.getElem?_cons_zero] at v1
                          have HBA := Lib.hid (below_own (HBU1.out.alloc HBU1.out.size (.cells #[.string yt] 9)) HGR.out (by have := HBU1.out.size; have := HSZ1.out; simp; omega) (HRU.out.1.alloc (.cells #[.string yt] 9)) (by have := HSZ1.out; omega))
                          have HBN := Lib.hid (HBA.out.setCell (p := ⟨ob, 0, none⟩) (by have := HSR.out.2.2.2; have := HSZ1.out; show _ ≤ ob; omega) (.slice oa (GJ.length + 1) oc))
                          have hk1 : w.heap.size + 1 + 1 < w1.heap.size := by have := HSZ1.out; omega
                          have HP1N := Lib.hid ((Below.heap_setCell w' ⟨ob, 0, none⟩ (.slice oa (GJ.length + 1) oc) (w.heap.size + 1) (by have := HSR.out.2.2.2; show _ ≠ ob; omega)).trans ((HGR.out.block _ (by have := lt_of_block HPU.out; simp; omega) (ownblock_ne HRA.out.1 (by omega))).trans ((Below.heap_alloc u1 (.cells #[.string yt] 9) _ (lt_of_block HPU.out)).trans HPU.out)))
                          have HP2N := Lib.hid ((Below.heap_setCell w' ⟨ob, 0, none⟩ (.slice oa (GJ.length + 1) oc) (w.heap.size + 1 + 1) (by have := HSR.out.2.2.2; show _ ≠ ob; omega)).trans ((HGR.out.block _ (by have := lt_of_block HZU.out; simp; omega) (ownblock_ne HRA.out.1 (by omega))).trans ((Below.heap_alloc u1 (.cells #[.string yt] 9) _ (lt_of_block HZU.out)).trans HZU.out)))
                          clear hstr z0 zf hk1
                          have HNX : Hid (∀ i (h : i < held.length), i < j + 1 → held[i].2.1 = (got.length : Int) + i) := fun i h1 h2 => by
                            rcases Nat.lt_or_ge i j with h3 | h3
                            · exact HDR.out i h1 h3
                            · obtain rfl : i = j := by omega
                              exact HYL.out
                          have HGN : Hid (got ++ (held.take (j + 1)).map (fun q => q.2.2) = GJ ++ [yt]) := by
                            show _ = _
                            rw [List.take_succ_eq_append_getElem hjL, List.map_append, ← List.append_assoc, HGJ.out]
                            have := HYP.out
                            simp only [this, List.map_cons, List.map_nil]
                          have HMN : Hid (held.drop (j + 1) = M.drop 1) := by
                            show _ = _
                            rw [← HM.out, List.drop_drop]
                          have HML1 : Hid ((M.drop 1).length = M.length - 1) := List.length_drop ..
                          have c1' : (1 : Int) ≤ (M.length : Int) := by omega
                          have HTL := Lib.hid (HRN.out.2.1.1.tail (c := pkC))
                          by_cases hd : d2 = 1
                          · have hM1 : M.length = 1 := by have := HRN.out.2.1.2.2.1; omega
                            have HRF := Lib.hid (HRN.out.row (b2 := some ⟨g, off, none⟩) (M := M.drop 1) (d2 := 0) ⟨by rw [List.drop_of_length_le (by omega)]; exact SAt.nil, HRN.out.2.1.2.1, by rw [HML1.out]; omega, by omega⟩)
                            rw [HML1.out, show M.length - 1 = 0 by omega] at HRF
                            subst hd
                            go_wp2_with fail
                            go_roundw
                            case rel => exact ⟨j + 1, oa, oc, _, _, hjL, Lib.hid (by rw [HGN.out, HMN.out]; exact HRF.out), Lib.hid (HBN.out.setCell (p := ⟨ob, 1, none⟩) (by have := HSR.out.2.2.2; have := HSZ1.out; show _ ≤ ob; omega) _), Lib.hid ((Below.heap_setCell _ ⟨ob, 1, none⟩ _ (w.heap.size + 1) (by have := HSR.out.2.2.2; have := HSZ1.out; show _ ≠ ob; omega)).trans HP1N.out), Lib.hid ((Below.heap_setCell _ ⟨ob, 1, none⟩ _ (w.heap.size + 1 + 1) (by have := HSR.out.2.2.2; have := HSZ1.out; show _ ≠ ob; omega)).trans HP2N.out), HNX⟩
                            case measure =>
                              have e2 := cell_of_row _ _ 1 _ _ _ HRF.out.2.2.1
                              have e1 := cell_of_row _ _ 1 _ _ _ HSR.out.2.2.1
                              simp only [List.getElem?_toArray, List.getElem?_cons_succ, List.getElem?_cons_zero] at e1 e2
                              rw [e1, e2]
                              simp only [Option.getD_some, lenOfV]
                              have := HML1.out
                              omega
                          · have hd' : ¬ (d2 = 1) := hd
                            have HRF := Lib.hid (HRN.out.row (b2 := some ⟨g, off + 3, none⟩) (M := M.drop 1) (d2 := d2 - 1) ⟨HTL.out, fun ad e => by injection e with e; subst e; exact HRN.out.2.1.2.1 ⟨g, off, none⟩ rfl, by rw [HML1.out]; have := HRN.out.2.1.2.2.1; omega, by have := HRN.out.2.1.2.2.2; omega⟩)
                            rw [HML1.out] at HRF
                            go_wp2_with fail
                            go_roundw
                            case rel => exact ⟨j + 1, oa, oc, _, _, hjL, Lib.hid (by rw [HGN.out, HMN.out]; exact HRF.out), Lib.hid (HBN.out.setCell (p := ⟨ob, 1, none⟩) (by have := HSR.out.2.2.2; have := HSZ1.out; show _ ≤ ob; omega) _), Lib.hid ((Below.heap_setCell _ ⟨ob, 1, none⟩ _ (w.heap.size + 1) (by have := HSR.out.2.2.2; have := HSZ1.out; show _ ≠ ob; omega)).trans HP1N.out), Lib.hid ((Below.heap_setCell _ ⟨ob, 1, none⟩ _ (w.heap.size + 1 + 1) (by have := HSR.out.2.2.2; have := HSZ1.out; show _ ≠ ob; omega)).trans HP2N.out), HNX⟩
                            case measure =>
                              have e2 := cell_of_row _ _ 1 _ _ _ HRF.out.2.2.1
                              have e1 := cell_of_row _ _ 1 _ _ _ HSR.out.2.2.1
                              simp only [List.getElem?_toArray, List.getElem?_cons_succ, List.getElem?_cons_zero] at e1 e2
                              rw [e1, e2]
                              simp only [Option.getD_some, lenOfV]
                              have := HML1.out
                              omega
                  · have e1 : (yq == (GJ.length : Int)) = false := by rw [beq_eq_false_iff_ne]; exact hs
                    have HDN : Hid (Drain got.length held j) := ⟨hjl, HDR.out, fun h => by rw [HYP.out]; have := HGLN.out; simp only; omega⟩
                    clear hs
                    go_wp2_with fail
                    refine wp_region_noPanic ?_
                    refine wp_region_held_drew (S := fun u => Below wr.heap.size wr u) (by kernel_rfl) (Below.refl _ _).drew (fun hS0 => ?_)
                    have HS0 := Lib.hid hS0
                    clear hS0
                    refine take_val 0 (.pointer (some ⟨ob, 1, none⟩)) rfl (by kernel_rfl) (by kernel_rfl) (by kernel_rfl) (fun _ _ _ _ h => h) (by rfl) rfl (fun wz hS => by go_simp) HS0.out ?_
                    try simp only [List.set_cons_zero, List.set_cons_succ]
                    refine take_val 1 (.slice (some ⟨g, off, none⟩) M.length d2) rfl (by kernel_rfl) (by kernel_rfl) (by kernel_rfl) (fun _ _ _ _ h => h) (by rfl) rfl (fun wz hS => by have hz := cell_of_row _ _ 1 _ _ _ ((hS.block _ (lt_of_block HSR.out.2.2.1)).trans HSR.out.2.2.1); simp only [List.getElem?_toArray, List.getElem?_cons_zero, List.getElem?_cons_succ] at hz; go_simp) HS0.out ?_
                    try simp only [List.set_cons_zero, List.set_cons_succ]
                    refine take_val 2 (.int .i64 (M.length : Int)) rfl (by kernel_rfl) (by kernel_rfl) (by kernel_rfl) (fun _ _ _ _ h => h) (by rfl) rfl (fun wz hS => by go_simp) HS0.out ?_
                    try simp only [List.set_cons_zero, List.set_cons_succ]
                    refine take_val 3 (.bool true) rfl (by kernel_rfl) (by kernel_rfl) (by kernel_rfl) (fun _ _ _ _ h => h) (by rfl) rfl (fun wz hS => by go_simp) HS0.out ?_
                    try simp only [List.set_cons_zero, List.set_cons_succ]
                    refine take_val 4 (.bool true) rfl (by kernel_rfl) (by kernel_rfl) (by kernel_rfl) (fun _ _ _ _ h => h) (by rfl) rfl (fun wz hS => by go_simp) HS0.out ?_
                    try simp only [List.set_cons_zero, List.set_cons_succ]
                    refine take_val 5 (.pointer (some ⟨ob, 1, none⟩)) rfl (by kernel_rfl) (by kernel_rfl) (by kernel_rfl) (fun _ _ _ _ h => h) (by rfl) rfl (fun wz hS => by go_simp) HS0.out ?_
                    try simp only [List.set_cons_zero, List.set_cons_succ]
                    refine take_val 6 (.slice (some ⟨g, off, none⟩) M.length d2) rfl (by kernel_rfl) (by kernel_rfl) (by kernel_rfl) (fun _ _ _ _ h => h) (by rfl) rfl (fun wz hS => by have hz := cell_of_row _ _ 1 _ _ _ ((hS.block _ (lt_of_block HSR.out.2.2.1)).trans HSR.out.2.2.1); simp only [List.getElem?_toArray, List.getElem?_cons_zero, List.getElem?_cons_succ] at hz; go_simp) HS0.out ?_
                    try simp only [List.set_cons_zero, List.set_cons_succ]
                    refine take_val 7 (.pointer (some ⟨g, off, none⟩)) rfl (by kernel_rfl) (by kernel_rfl) (by kernel_rfl) (fun _ _ _ _ h => h) (by rfl) rfl (fun wz hS => by go_simp) HS0.out ?_
                    try simp only [List.set_cons_zero, List.set_cons_succ]
                    refine take_val 8 (.pointer (some ⟨g, off + 1, none⟩)) rfl (by kernel_rfl) (by kernel_rfl) (by kernel_rfl) (fun _ _ _ _ h => h) (by rfl) rfl (fun wz hS => by go_simp) HS0.out ?_
                    try simp only [List.set_cons_zero, List.set_cons_succ]
                    refine take_val 9 (.int .i64 yq) rfl (by kernel_rfl) (by kernel_rfl) (by kernel_rfl) (fun _ _ _ _ h => h) (by rfl) rfl (fun wz hS => by have hz := (hS.cell (p := ⟨g, off + 1, none⟩) HGL.out).trans HY1.out; go_simp) HS0.out ?_
                    try simp only [List.set_cons_zero, List.set_cons_succ]
                    refine take_val 10 (.pointer (some ⟨ob, 0, none⟩)) rfl (by kernel_rfl) (by kernel_rfl) (by kernel_rfl) (fun _ _ _ _ h => h) (by rfl) rfl (fun wz hS => by go_simp) HS0.out ?_
                    try simp only [List.set_cons_zero, List.set_cons_succ]
                    refine take_val 11 (.slice b1 GJ.length d1) rfl (by kernel_rfl) (by kernel_rfl) (by kernel_rfl) (fun _ _ _ _ h => h) (by rfl) rfl (fun wz hS => by have hz := cell_of_row _ _ 0 _ _ _ ((hS.block _ (lt_of_block HSR.out.2.2.1)).trans HSR.out.2.2.1); simp only [List.getElem?_toArray, List.getElem?_cons_zero, List.getElem?_cons_succ] at hz; go_simp) HS0.out ?_
                    try simp only [List.set_cons_zero, List.set_cons_succ]
                    refine take_val 12 (.int .i64 (GJ.length : Int)) rfl (by kernel_rfl) (by kernel_rfl) (by kernel_rfl) (fun _ _ _ _ h => h) (by rfl) rfl (fun wz hS => by go_simp) HS0.out ?_
                    try simp only [List.set_cons_zero, List.set_cons_succ]
                    refine take_val 13 (.bool false) rfl (by kernel_rfl) (by kernel_rfl) (by kernel_rfl) (fun _ _ _ _ h => h) (by rfl) rfl (fun wz hS => by go_simp) HS0.out ?_
                    try simp only [List.set_cons_zero, List.set_cons_succ]
                    refine take_val 14 (.bool false) rfl (by kernel_rfl) (by kernel_rfl) (by kernel_rfl) (fun _ _ _ _ h => h) (by rfl) rfl (fun wz hS => by go_simp) HS0.out ?_
                    try simp only [List.set_cons_zero, List.set_cons_succ]
                    refine wpAnyH_done (by kernel_rfl) ?_ _
                    refine NoPanic.normal ?_
                    have HRD := Lib.hid (HSR.out.below HS0.out)
                    have HBD := Lib.hid (Below.step HBW.out HS0.out)
                    have HPD := Lib.hid ((HS0.out.block _ (lt_of_block HPW.out)).trans HPW.out)
                    have HZD := Lib.hid ((HS0.out.block _ (lt_of_block HZW.out)).trans HZW.out)
                    clear HS0
                    generalize wr.drew = wd at *
                    have x0 := cell_of_row _ _ 0 _ _ _ HRD.out.2.2.1
                    have x1 := cell_of_row _ _ 1 _ _ _ HRD.out.2.2.1
                    simp only [List.getElem?_toArray, List.getElem?_cons_succ, List.getElem?_cons_zero] at x0 x1
                    go_wp2_with fail
                    refine (HCK2.out (some ⟨g, off, none⟩) d2 M wd HRD.out.2.1.1 (by omega)).mono ?_
                    rintro e wc ⟨hbc, a4, c4, rfl, hown4⟩
                    have HRC := Lib.hid (HRD.out.below hbc)
                    have HBC := Lib.hid (Below.step HBD.out hbc)
                    have HPC := Lib.hid ((hbc.block _ (lt_of_block HPD.out)).trans HPD.out)
                    have HZC := Lib.hid ((hbc.block _ (lt_of_block HZD.out)).trans HZD.out)
                    have hw1d : w1.heap.size ≤ wd.heap.size := by have := HRD.out.2.2.2; have := lt_of_block HRD.out.2.2.1; omega
                    have HRS := Lib.hid (HRC.out.row (b2 := a4) (M := M) (d2 := c4) ⟨sat_own1 pkC_length hown4, pb_own (own_mono hown4 hw1d), own_capK hown4⟩)
                    have HBS := Lib.hid (HBC.out.setCell (p := ⟨ob, 1, none⟩) (by have := HRC.out.2.2.2; have := HSZ1.out; show _ ≤ ob; omega) (.slice a4 M.length c4))
                    have HPS2 := Lib.hid ((Below.heap_setCell wc ⟨ob, 1, none⟩ (.slice a4 M.length c4) (w.heap.size + 1) (by have := HRC.out.2.2.2; have := HSZ1.out; show _ ≠ ob; omega)).trans HPC.out)
                    have HZS2 := Lib.hid ((Below.heap_setCell wc ⟨ob, 1, none⟩ (.slice a4 M.length c4) (w.heap.size + 1 + 1) (by have := HRC.out.2.2.2; have := HSZ1.out; show _ ≠ ob; omega)).trans HZC.out)
                    have NB4 : Hid (NB w.heap.size a4) := (nb_own hown4).mono (by have := HSZ1.out; omega)
                    have y1 := cell_of_row _ _ 1 _ _ _ HRC.out.2.2.1
                    have yf := frozen_of_row _ _ 1 _ _ HRC.out.2.2.1
                    simp only [List.getElem?_toArray, List.getElem?_cons_succ, List.getElem?_cons_zero] at y1
                    clear x0 x1 hbc hown4 hw1d
                    go_wp2_with fail
                    clear y1 yf
                    generalize wc.setCell ⟨ob, 1, none⟩ (.slice a4 M.length c4) = ws at *
                    have HNZ : Hid (ob ≠ w.heap.size + 1 + 1) := by have := HRS.out.2.2.2; have := HSZ1.out; show _ ≠ _; omega
                    have hic15 : (Try.prog.info? 28).map (·.size) = some ([.slice b1 GJ.length d1, .slice a4 M.length c4] : List Value).length := HI.out
                    have hu15 := Try.underlying28
                    refine wp_region_noPanic ?_
                    refine wp_region_held_drew (S := fun u => Below w.heap.size w u ∧ (ws.heap.size ≤ u.heap.size ∧ ∀ k, k < ws.heap.size → k ≠ w.heap.size + 1 + 1 → u.heap[k]? = ws.heap[k]?) ∧ RowZ 28 w.heap.size (w.heap.size + 1 + 1) 2 u) (by kernel_rfl) ⟨HBS.out.drew, ⟨Nat.le_refl _, fun _ _ _ => rfl⟩, ⟨by omega, _, HZS2.out, rfl⟩⟩ (fun hS0 => ?_)
                    have HS0 := Lib.hid hS0
                    clear hS0
                    refine take_row 0 (cs := [.slice b1 GJ.length d1, .slice a4 M.length c4]) rfl (by kernel_rfl) (by kernel_rfl) (by kernel_rfl) (fun _ _ _ _ h => h) (by rfl) rfl rfl rfl (fun _ hS => row_rangeG ((hS.2.1.2 ob (lt_of_block HRS.out.2.2.1) HNZ.out).trans HRS.out.2.2.1)) hu15 rfl hic15 HS0.out ?_
                    try simp only [List.set_cons_zero, List.set_cons_succ]
                    refine take_val 1 (.pointer (some ⟨w.heap.size + 1, 1, none⟩)) rfl (by kernel_rfl) (by kernel_rfl) (by kernel_rfl) (fun _ _ _ _ h => h) (by rfl) rfl (fun wz hS => by go_simp) HS0.out ?_
                    try simp only [List.set_cons_zero, List.set_cons_succ]
                    refine take_val 2 (.int .i64 q) rfl (by kernel_rfl) (by kernel_rfl) (by kernel_rfl) (fun _ _ _ _ h => h) (by rfl) rfl (fun wz hS => by have hz := cell_of_row _ _ 1 _ _ _ ((hS.2.1.2 (w.heap.size + 1) (lt_of_block HPS2.out) (by omega)).trans HPS2.out); simp only [List.getElem?_toArray, List.getElem?_cons_zero, List.getElem?_cons_succ] at hz; go_simp) HS0.out ?_
                    try simp only [List.set_cons_zero, List.set_cons_succ]
                    refine take_val 3 (.agg #[.int .i64 2, .int .i64 q, .string ⟨#[]⟩]) rfl (by kernel_rfl) (by kernel_rfl) (by kernel_rfl) (fun _ _ _ _ h => h) (by rfl) rfl (fun wz hS => by go_simp) HS0.out ?_
                    try simp only [List.set_cons_zero, List.set_cons_succ]
                    refine wpAnyH_obls (γ := Nat) [4, 5] (fun kx g w' => (kx = 4 → w'.heap[g]? = some (.cells #[.int .i64 2, .int .i64 q, .string ⟨#[]⟩] 30 (0, 0))) ∧ (kx = 5 → w'.heap[w.heap.size + 1 + 1]? = some (.cells #[.slice b1 GJ.length d1, .slice a4 M.length c4] 28 (0, 0)))) [105, 5, 6] (fun g => [.slice (some ⟨g, 0, none⟩) 1 1, .slice (some ⟨g, 0, none⟩) 1 1, .int .i64 0]) [4, 5, 6, 7] 0 (by kernel_rfl) (by kernel_rfl) (by kernel_rfl) (by kernel_rfl) (by kernel_rfl) (by kernel_rfl) (by decide +kernel) (fun _ _ _ _ h => h) HS0.out ?_ ?_
                    · skip
                      refine .mk _ 105 [5] (by kernel_rfl) rfl rfl (fun g => by kernel_rfl) (fun g u hS hB => ⟨u.heap.size, .slice (some ⟨u.heap.size, 0, none⟩) 1 1, u.alloc (.cells #[.int .i64 2, .int .i64 q, .string ⟨#[]⟩] 30), by simp only [setAll, List.zip_cons_cons, List.zip_nil_right, List.foldl_cons, List.foldl_nil, List.set_cons_zero, List.set_cons_succ]; go_simp, by rfl, ⟨hS.1.alloc hS.1.size _, ⟨Nat.le_trans hS.2.1.1 (by simp), fun k hk hne => (Below.heap_alloc u _ _ (Nat.lt_of_lt_of_le hk hS.2.1.1)).trans (hS.2.1.2 k hk hne)⟩, hS.2.2.below ((Below.refl _ _).alloc (Nat.le_refl _) _)⟩, ⟨fun _ => heap_alloc_new u _, fun e => absurd e (by decide)⟩, fun k hk hne hna hb => ⟨fun e => absurd e hne, fun e => (fun h => (Below.heap_alloc u _ _ (lt_of_block h)).trans h) (hb.2 e)⟩, fun t ht => (show Differ [105, 5] _ _ by simp only [List.zip_cons_cons, List.zip_nil_right]; repeat (first | exact .nil | refine .same ?_ | refine .diff (by decide) ?_)).get _ _ rfl (fun _ _ => rfl) t ht⟩) ?_
                      refine .eff _ rfl rfl (fun g => by kernel_rfl) (fun g u hS hB => by simp only [setAll, List.zip_cons_cons, List.zip_nil_right, List.foldl_cons, List.foldl_nil, List.set_cons_zero, List.set_cons_succ]; exact (st_row (B := w.heap.size) (w0 := w) (b := w.heap.size + 1 + 1) (n := 2) (full := #[.slice b1 GJ.length d1, .slice a4 M.length c4]) rfl rfl rfl hS.1 hS.2.2 rfl HI.out (recv_one _ _ _ _ _ _) rfl) |> Oper.wp_mono (fun a' w' h => ⟨h.1, ⟨h.2.1, ⟨by have h1 := hS.2.1.1; exact Nat.le_trans h1 (st_size h.2.2.2 h.2.2.1), fun k hk hne => (h.2.2.2 k hne).trans (hS.2.1.2 k hk hne)⟩, ⟨hS.2.2.1, _, h.2.2.1, rfl⟩⟩, ⟨fun e => absurd e (by decide), fun _ => h.2.2.1⟩, fun k hk hne hb => ⟨fun e => (h.2.2.2 g (rowz_ne (hb.1 e) hS.2.2 (by decide))).trans (hb.1 e), fun e => absurd e hne⟩⟩)) ?_
                      refine .val _ 5 (fun g => .slice (some ⟨g, 0, none⟩) 1 1) rfl (by decide) rfl (fun g => by kernel_rfl) (fun g u hS hB => by simp only [setAll, List.zip_cons_cons, List.zip_nil_right, List.foldl_cons, List.foldl_nil, List.set_cons_zero, List.set_cons_succ]; go_simp) (fun g => by rfl) ?_
                      refine .val _ 6 (fun g => .int .i64 0) rfl (by decide) rfl (fun g => by kernel_rfl) (fun g u hS hB => by simp only [setAll, List.zip_cons_cons, List.zip_nil_right, List.foldl_cons, List.foldl_nil, List.set_cons_zero, List.set_cons_succ]; go_simp) (fun g => by rfl) ?_
                      exact .nil
                    intro g9 uf hS hB
                    refine NoPanic.normal ?_
                    simp only [setAll, List.zip_cons_cons, List.zip_nil_right, List.foldl_cons, List.foldl_nil, List.set_cons_zero, List.set_cons_succ]
                    have HF4 := Lib.hid ((hB 4 (by decide)).1 rfl)
                    have HF5 := Lib.hid ((hB 5 (by decide)).2 rfl)
                    have HSF := Lib.hid hS
                    clear hS hB HS0
                    go_wp2_with fail
                    have hrow : uf.heap[w.heap.size + 1 + 1]? = some (.cells #[.slice b1 GJ.length d1, .slice a4 M.length c4] 28 (0, 0)) := HF5.out
                    refine bodyPost_ret (results_row_tmp2 (p := 4) (q := 5) (r := 6) (ty := 28) rfl _ _ (w.heap.size + 1 + 1) 28 #[.slice b1 GJ.length d1, .slice a4 M.length c4] (0, 0) _ rfl hrow Try.underlying28 rfl HI.out) rfl ?_
                    have hkk : w.heap.size + 1 + 1 < w1.heap.size := by have := HSZ1.out; omega
                    have hown1 := own_keep (w' := uf) HRS.out.1 fun g cs hg hB => HSF.out.2.1.2 g (lt_of_block hg) (by omega)
                    have hs2 := HRS.out.2.1.1.keep HSF.out.2.1.1 fun ad e => by obtain ⟨hh, cs, hg⟩ := HRS.out.2.1.2.1 ad e; exact HSF.out.2.1.2 _ (lt_of_block hg) (by omega)
                    refine ⟨HSF.out.1, .inr ⟨HOK.out, GJ, M, [(2, q, ⟨#[]⟩)], b1, d1, a4, c4, some ⟨g9, 0, none⟩, 1, rfl, sat_own1 stC_length hown1, hs2, sat_one HF4.out, (nb_own hown1).mono (by omega), NB4.out, .inr ⟨rfl, hq0, hq8.1, hq8.2, rfl, held, j, HLP.out, HDN.out, HGJ.out.symm, HM.out.symm⟩⟩⟩
                · have m1 : ¬ ((M.length : Int) > 0) := by omega
                  have HDN : Hid (Drain got.length held j) := ⟨hjl, HDR.out, fun h => by have := HMLN.out; omega⟩
                  clear q0 q1
                  go_wp2_with fail
                  refine wp_region_noPanic ?_
                  refine wp_region_held_drew (S := fun u => Below wr.heap.size wr u) (by kernel_rfl) (Below.refl _ _).drew (fun hS0 => ?_)
                  have HS0 := Lib.hid hS0
                  clear hS0
                  refine take_val 0 (.pointer (some ⟨ob, 1, none⟩)) rfl (by kernel_rfl) (by kernel_rfl) (by kernel_rfl) (fun _ _ _ _ h => h) (by rfl) rfl (fun wz hS => by go_simp) HS0.out ?_
                  try simp only [List.set_cons_zero, List.set_cons_succ]
                  refine take_val 1 (.slice b2 M.length d2) rfl (by kernel_rfl) (by kernel_rfl) (by kernel_rfl) (fun _ _ _ _ h => h) (by rfl) rfl (fun wz hS => by have hz := cell_of_row _ _ 1 _ _ _ ((hS.block _ (lt_of_block HSR.out.2.2.1)).trans HSR.out.2.2.1); simp only [List.getElem?_toArray, List.getElem?_cons_zero, List.getElem?_cons_succ] at hz; go_simp) HS0.out ?_
                  try simp only [List.set_cons_zero, List.set_cons_succ]
                  refine take_val 2 (.int .i64 (M.length : Int)) rfl (by kernel_rfl) (by kernel_rfl) (by kernel_rfl) (fun _ _ _ _ h => h) (by rfl) rfl (fun wz hS => by go_simp) HS0.out ?_
                  try simp only [List.set_cons_zero, List.set_cons_succ]
                  refine take_val 3 (.bool false) rfl (by kernel_rfl) (by kernel_rfl) (by kernel_rfl) (fun _ _ _ _ h => h) (by rfl) rfl (fun wz hS => by go_simp) HS0.out ?_
                  try simp only [List.set_cons_zero, List.set_cons_succ]
                  refine take_val 4 (.bool false) rfl (by kernel_rfl) (by kernel_rfl) (by kernel_rfl) (fun _ _ _ _ h => h) (by rfl) rfl (fun wz hS => by go_simp) HS0.out ?_
                  try simp only [List.set_cons_zero, List.set_cons_succ]
                  refine take_not 5 rfl (by kernel_rfl) (by kernel_rfl) (by kernel_rfl) (fun _ _ _ _ h => h) (by rfl) rfl HS0.out ?_
                  try simp only [List.set_cons_zero, List.set_cons_succ]
                  refine take_not 6 rfl (by kernel_rfl) (by kernel_rfl) (by kernel_rfl) (fun _ _ _ _ h => h) (by rfl) rfl HS0.out ?_
                  try simp only [List.set_cons_zero, List.set_cons_succ]
                  refine take_not 7 rfl (by kernel_rfl) (by kernel_rfl) (by kernel_rfl) (fun _ _ _ _ h => h) (by rfl) rfl HS0.out ?_
                  try simp only [List.set_cons_zero, List.set_cons_succ]
                  refine take_not 8 rfl (by kernel_rfl) (by kernel_rfl) (by kernel_rfl) (fun _ _ _ _ h => h) (by rfl) rfl HS0.out ?_
                  try simp only [List.set_cons_zero, List.set_cons_succ]
                  refine take_not 9 rfl (by kernel_rfl) (by kernel_rfl) (by kernel_rfl) (fun _ _ _ _ h => h) (by rfl) rfl HS0.out ?_
                  try simp only [List.set_cons_zero, List.set_cons_succ]
                  refine take_not 10 rfl (by kernel_rfl) (by kernel_rfl) (by kernel_rfl) (fun _ _ _ _ h => h) (by rfl) rfl HS0.out ?_
                  try simp only [List.set_cons_zero, List.set_cons_succ]
                  refine take_not 11 rfl (by kernel_rfl) (by kernel_rfl) (by kernel_rfl) (fun _ _ _ _ h => h) (by rfl) rfl HS0.out ?_
                  try simp only [List.set_cons_zero, List.set_cons_succ]
                  refine take_not 12 rfl (by kernel_rfl) (by kernel_rfl) (by kernel_rfl) (fun _ _ _ _ h => h) (by rfl) rfl HS0.out ?_
                  try simp only [List.set_cons_zero, List.set_cons_succ]
                  refine take_not 13 rfl (by kernel_rfl) (by kernel_rfl) (by kernel_rfl) (fun _ _ _ _ h => h) (by rfl) rfl HS0.out ?_
                  try simp only [List.set_cons_zero, List.set_cons_succ]
                  refine take_val 14 (.bool false) rfl (by kernel_rfl) (by kernel_rfl) (by kernel_rfl) (fun _ _ _ _ h => h) (by rfl) rfl (fun wz hS => by go_simp) HS0.out ?_
                  try simp only [List.set_cons_zero, List.set_cons_succ]
                  refine wpAnyH_done (by kernel_rfl) ?_ _
                  refine NoPanic.normal ?_
                  have HRD := Lib.hid (HSR.out.below HS0.out)
                  have HBD := Lib.hid (Below.step HBW.out HS0.out)
                  have HPD := Lib.hid ((HS0.out.block _ (lt_of_block HPW.out)).trans HPW.out)
                  have HZD := Lib.hid ((HS0.out.block _ (lt_of_block HZW.out)).trans HZW.out)
                  clear HS0
                  generalize wr.drew = wd at *
                  have x0 := cell_of_row _ _ 0 _ _ _ HRD.out.2.2.1
                  have x1 := cell_of_row _ _ 1 _ _ _ HRD.out.2.2.1
                  simp only [List.getElem?_toArray, List.getElem?_cons_succ, List.getElem?_cons_zero] at x0 x1
                  go_wp2_with fail
                  refine (HCK2.out b2 d2 M wd HRD.out.2.1.1 (by omega)).mono ?_
                  rintro e wc ⟨hbc, a4, c4, rfl, hown4⟩
                  have HRC := Lib.hid (HRD.out.below hbc)
                  have HBC := Lib.hid (Below.step HBD.out hbc)
                  have HPC := Lib.hid ((hbc.block _ (lt_of_block HPD.out)).trans HPD.out)
                  have HZC := Lib.hid ((hbc.block _ (lt_of_block HZD.out)).trans HZD.out)
                  have hw1d : w1.heap.size ≤ wd.heap.size := by have := HRD.out.2.2.2; have := lt_of_block HRD.out.2.2.1; omega
                  have HRS := Lib.hid (HRC.out.row (b2 := a4) (M := M) (d2 := c4) ⟨sat_own1 pkC_length hown4, pb_own (own_mono hown4 hw1d), own_capK hown4⟩)
                  have HBS := Lib.hid (HBC.out.setCell (p := ⟨ob, 1, none⟩) (by have := HRC.out.2.2.2; have := HSZ1.out; show _ ≤ ob; omega) (.slice a4 M.length c4))
                  have HPS2 := Lib.hid ((Below.heap_setCell wc ⟨ob, 1, none⟩ (.slice a4 M.length c4) (w.heap.size + 1) (by have := HRC.out.2.2.2; have := HSZ1.out; show _ ≠ ob; omega)).trans HPC.out)
                  have HZS2 := Lib.hid ((Below.heap_setCell wc ⟨ob, 1, none⟩ (.slice a4 M.length c4) (w.heap.size + 1 + 1) (by have := HRC.out.2.2.2; have := HSZ1.out; show _ ≠ ob; omega)).trans HZC.out)
                  have NB4 : Hid (NB w.heap.size a4) := (nb_own hown4).mono (by have := HSZ1.out; omega)
                  have y1 := cell_of_row _ _ 1 _ _ _ HRC.out.2.2.1
                  have yf := frozen_of_row _ _ 1 _ _ HRC.out.2.2.1
                  simp only [List.getElem?_toArray, List.getElem?_cons_succ, List.getElem?_cons_zero] at y1
                  clear x0 x1 hbc hown4 hw1d
                  go_wp2_with fail
                  clear y1 yf
                  generalize wc.setCell ⟨ob, 1, none⟩ (.slice a4 M.length c4) = ws at *
                  have HNZ : Hid (ob ≠ w.heap.size + 1 + 1) := by have := HRS.out.2.2.2; have := HSZ1.out; show _ ≠ _; omega
                  have hic15 : (Try.prog.info? 28).map (·.size) = some ([.slice b1 GJ.length d1, .slice a4 M.length c4] : List Value).length := HI.out
                  have hu15 := Try.underlying28
                  refine wp_region_noPanic ?_
                  refine wp_region_held_drew (S := fun u => Below w.heap.size w u ∧ (ws.heap.size ≤ u.heap.size ∧ ∀ k, k < ws.heap.size → k ≠ w.heap.size + 1 + 1 → u.heap[k]? = ws.heap[k]?) ∧ RowZ 28 w.heap.size (w.heap.size + 1 + 1) 2 u) (by kernel_rfl) ⟨HBS.out.drew, ⟨Nat.le_refl _, fun _ _ _ => rfl⟩, ⟨by omega, _, HZS2.out, rfl⟩⟩ (fun hS0 => ?_)
                  have HS0 := Lib.hid hS0
                  clear hS0
                  refine take_row 0 (cs := [.slice b1 GJ.length d1, .slice a4 M.length c4]) rfl (by kernel_rfl) (by kernel_rfl) (by kernel_rfl) (fun _ _ _ _ h => h) (by rfl) rfl rfl rfl (fun _ hS => row_rangeG ((hS.2.1.2 ob (lt_of_block HRS.out.2.2.1) HNZ.out).trans HRS.out.2.2.1)) hu15 rfl hic15 HS0.out ?_
                  try simp only [List.set_cons_zero, List.set_cons_succ]
                  refine take_val 1 (.pointer (some ⟨w.heap.size + 1, 1, none⟩)) rfl (by kernel_rfl) (by kernel_rfl) (by kernel_rfl) (fun _ _ _ _ h => h) (by rfl) rfl (fun wz hS => by go_simp) HS0.out ?_
                  try simp only [List.set_cons_zero, List.set_cons_succ]
                  refine take_val 2 (.int .i64 q) rfl (by kernel_rfl) (by kernel_rfl) (by kernel_rfl) (fun _ _ _ _ h => h) (by rfl) rfl (fun wz hS => by have hz := cell_of_row _ _ 1 _ _ _ ((hS.2.1.2 (w.heap.size + 1) (lt_of_block HPS2.out) (by omega)).trans HPS2.out); simp only [List.getElem?_toArray, List.getElem?_cons_zero, List.getElem?_cons_succ] at hz; go_simp) HS0.out ?_
                  try simp only [List.set_cons_zero, List.set_cons_succ]
                  refine take_val 3 (.agg #[.int .i64 2, .int .i64 q, .string ⟨#[]⟩]) rfl (by kernel_rfl) (by kernel_rfl) (by kernel_rfl) (fun _ _ _ _ h => h) (by rfl) rfl (fun wz hS => by go_simp) HS0.out ?_
                  try simp only [List.set_cons_zero, List.set_cons_succ]
                  refine wpAnyH_obls (γ := Nat) [4, 5] (fun kx g w' => (kx = 4 → w'.heap[g]? = some (.cells #[.int .i64 2, .int .i64 q, .string ⟨#[]⟩] 30 (0, 0))) ∧ (kx = 5 → w'.heap[w.heap.size + 1 + 1]? = some (.cells #[.slice b1 GJ.length d1, .slice a4 M.length c4] 28 (0, 0)))) [105, 5, 6] (fun g => [.slice (some ⟨g, 0, none⟩) 1 1, .slice (some ⟨g, 0, none⟩) 1 1, .int .i64 0]) [4, 5, 6, 7] 0 (by kernel_rfl) (by kernel_rfl) (by kernel_rfl) (by kernel_rfl) (by kernel_rfl) (by kernel_rfl) (by decide +kernel) (fun _ _ _ _ h => h) HS0.out ?_ ?_
                  · skip
                    refine .mk _ 105 [5] (by kernel_rfl) rfl rfl (fun g => by kernel_rfl) (fun g u hS hB => ⟨u.heap.size, .slice (some ⟨u.heap.size, 0, none⟩) 1 1, u.alloc (.cells #[.int .i64 2, .int .i64 q, .string ⟨#[]⟩] 30), by simp only [setAll, List.zip_cons_cons, List.zip_nil_right, List.foldl_cons, List.foldl_nil, List.set_cons_zero, List.set_cons_succ]; go_simp, by rfl, ⟨hS.1.alloc hS.1.size _, ⟨Nat.le_trans hS.2.1.1 (by simp), fun k hk hne => (Below.heap_alloc u _ _ (Nat.lt_of_lt_of_le hk hS.2.1.1)).trans (hS.2.1.2 k hk hne)⟩, hS.2.2.below ((Below.refl _ _).alloc (Nat.le_refl _) _)⟩, ⟨fun _ => heap_alloc_new u _, fun e => absurd e (by decide)⟩, fun k hk hne hna hb => ⟨fun e => absurd e hne, fun e => (fun h => (Below.heap_alloc u _ _ (lt_of_block h)).trans h) (hb.2 e)⟩, fun t ht => (show Differ [105, 5] _ _ by simp only [List.zip_cons_cons, List.zip_nil_right]; repeat (first | exact .nil | refine .same ?_ | refine .diff (by decide) ?_)).get _ _ rfl (fun _ _ => rfl) t ht⟩) ?_
                    refine .eff _ rfl rfl (fun g => by kernel_rfl) (fun g u hS hB => by simp only [setAll, List.zip_cons_cons, List.zip_nil_right, List.foldl_cons, List.foldl_nil, List.set_cons_zero, List.set_cons_succ]; exact (st_row (B := w.heap.size) (w0 := w) (b := w.heap.size + 1 + 1) (n := 2) (full := #[.slice b1 GJ.length d1, .slice a4 M.length c4]) rfl rfl rfl hS.1 hS.2.2 rfl HI.out (recv_one _ _ _ _ _ _) rfl) |> Oper.wp_mono (fun a' w' h => ⟨h.1, ⟨h.2.1, ⟨by have h1 := hS.2.1.1; exact Nat.le_trans h1 (st_size h.2.2.2 h.2.2.1), fun k hk hne => (h.2.2.2 k hne).trans (hS.2.1.2 k hk hne)⟩, ⟨hS.2.2.1, _, h.2.2.1, rfl⟩⟩, ⟨fun e => absurd e (by decide), fun _ => h.2.2.1⟩, fun k hk hne hb => ⟨fun e => (h.2.2.2 g (rowz_ne (hb.1 e) hS.2.2 (by decide))).trans (hb.1 e), fun e => absurd e hne⟩⟩)) ?_
                    refine .val _ 5 (fun g => .slice (some ⟨g, 0, none⟩) 1 1) rfl (by decide) rfl (fun g => by kernel_rfl) (fun g u hS hB => by simp only [setAll, List.zip_cons_cons, List.zip_nil_right, List.foldl_cons, List.foldl_nil, List.set_cons_zero, List.set_cons_succ]; go_simp) (fun g => by rfl) ?_
                    refine .val _ 6 (fun g => .int .i64 0) rfl (by decide) rfl (fun g => by kernel_rfl) (fun g u hS hB => by simp only [setAll, List.zip_cons_cons, List.zip_nil_right, List.foldl_cons, List.foldl_nil, List.set_cons_zero, List.set_cons_succ]; go_simp) (fun g => by rfl) ?_
                    exact .nil
                  intro g9 uf hS hB
                  refine NoPanic.normal ?_
                  simp only [setAll, List.zip_cons_cons, List.zip_nil_right, List.foldl_cons, List.foldl_nil, List.set_cons_zero, List.set_cons_succ]
                  have HF4 := Lib.hid ((hB 4 (by decide)).1 rfl)
                  have HF5 := Lib.hid ((hB 5 (by decide)).2 rfl)
                  have HSF := Lib.hid hS
                  clear hS hB HS0
                  go_wp2_with fail
                  have hrow : uf.heap[w.heap.size + 1 + 1]? = some (.cells #[.slice b1 GJ.length d1, .slice a4 M.length c4] 28 (0, 0)) := HF5.out
                  refine bodyPost_ret (results_row_tmp2 (p := 4) (q := 5) (r := 6) (ty := 28) rfl _ _ (w.heap.size + 1 + 1) 28 #[.slice b1 GJ.length d1, .slice a4 M.length c4] (0, 0) _ rfl hrow Try.underlying28 rfl HI.out) rfl ?_
                  have hkk : w.heap.size + 1 + 1 < w1.heap.size := by have := HSZ1.out; omega
                  have hown1 := own_keep (w' := uf) HRS.out.1 fun g cs hg hB => HSF.out.2.1.2 g (lt_of_block hg) (by omega)
                  have hs2 := HRS.out.2.1.1.keep HSF.out.2.1.1 fun ad e => by obtain ⟨hh, cs, hg⟩ := HRS.out.2.1.2.1 ad e; exact HSF.out.2.1.2 _ (lt_of_block hg) (by omega)
                  refine ⟨HSF.out.1, .inr ⟨HOK.out, GJ, M, [(2, q, ⟨#[]⟩)], b1, d1, a4, c4, some ⟨g9, 0, none⟩, 1, rfl, sat_own1 stC_length hown1, hs2, sat_one HF4.out, (nb_own hown1).mono (by omega), NB4.out, .inr ⟨rfl, hq0, hq8.1, hq8.2, rfl, held, j, HLP.out, HDN.out, HGJ.out.symm, HM.out.symm⟩⟩⟩
            · have n1 : ¬ (q ≥ (got.length : Int)) := h1
              clear hB
              cases f with
              | true =>
                go_wp2_with fail
                clear p0 p1 p2 q0 q1 qf
                go_loopw [] (fun wr => ∃ (j : Nat) (b1 : Option Addr) (d1 : Nat) (b2 : Option Addr) (d2 : Nat), j ≤ held.length ∧ Hid (RSt w1.heap.size ob b1 d1 b2 d2 (got ++ (held.take j).map (fun q => q.2.2)) (held.drop j) wr) ∧ Hid (Below w.heap.size w wr) ∧ Hid (wr.heap[w.heap.size + 1]? = some (.cells #[.int .i64 1, .int .i64 q, .string s] 30 (0, 0))) ∧ Hid (wr.heap[w.heap.size + 1 + 1]? = some (.cells #[.slice none 0 0, .slice none 0 0] 28 (0, 0))) ∧ Hid (∀ i (h : i < held.length), i < j → held[i].2.1 = (got.length : Int) + i)) (fun wr => lenOfV ((wr.cell? ⟨ob, 1, none⟩).getD undef))
                case atStart => exact ⟨0, _, _, _, _, Nat.zero_le _, Lib.hid (by simpa using HSTL.out), HBL, HPL, HZL, Lib.hid (fun i h1 h2 => by omega)⟩
                case round =>
                  obtain ⟨j, b1, d1, b2, d2, hjl, HSR, HBW, HPW, HZW, HDR⟩ := hrel
                  obtain ⟨GJ, hGJ⟩ : ∃ GJ, got ++ (held.take j).map (fun q => q.2.2) = GJ := ⟨_, rfl⟩
                  obtain ⟨M, hM⟩ : ∃ M, held.drop j = M := ⟨_, rfl⟩
                  rw [hGJ, hM] at HSR
                  have HGLN : Hid (GJ.length = got.length + j) := by
                    show _ = _
                    rw [← hGJ, List.length_append, List.length_map, List.length_take, Nat.min_eq_left hjl]
                  have HMLN : Hid (M.length = held.length - j) := by show _ = _; rw [← hM, List.length_drop]
                  have HGJ := Lib.hid hGJ
                  have HM := Lib.hid hM
                  have gj1 : GJ.length ≤ 2020 := by have := HGLN.out; omega
                  have ml1 : M.length ≤ 20 := by have := HMLN.out; omega
                  have q0 := cell_of_row _ _ 0 _ _ _ HSR.out.2.2.1
                  have q1 := cell_of_row _ _ 1 _ _ _ HSR.out.2.2.1
                  simp only [List.getElem?_toArray, List.getElem?_cons_succ, List.getElem?_cons_zero] at q0 q1
                  clear hGJ hM
                  by_cases hm0 : 0 < M.length
                  · have m1 : (M.length : Int) > 0 := by omega
                    have hjL : j < held.length := by have := HMLN.out; omega
                    obtain ⟨y, hy⟩ : ∃ y, M[0] = y := ⟨_, rfl⟩
                    obtain ⟨g, off, rfl, hgl, _, y1, y2⟩ := HSR.out.2.1.1.packet 0 hm0 y hy
                    rw [Nat.zero_mul, Nat.add_zero] at y1 y2
                    have HYP : Hid (held[j] = y) := by
                      show _ = _
                      rw [← hy]
                      have e := congrArg (fun x : List PkT => x[0]?) HM.out
                      simp only [List.getElem?_drop, Nat.add_zero] at e
                      rw [List.getElem?_eq_getElem hjL, List.getElem?_eq_getElem hm0] at e
                      exact Option.some.inj e
                    obtain ⟨yk, yq, yt⟩ := y
                    have HGL := Lib.hid hgl
                    have HY1 := Lib.hid y1
                    have HY2 := Lib.hid y2
                    clear hy hgl y1 y2 q0 q1
                    by_cases hs : yq = (GJ.length : Int)
                    · have e1 : (yq == (GJ.length : Int)) = true := by rw [beq_iff_eq]; exact hs
                      have HYL : Hid (held[j].2.1 = (got.length : Int) + j) := by show _ = _; rw [HYP.out]; have := HGLN.out; simp only; omega
                      clear hs
                      go_wp2_with fail
                      refine wp_region_noPanic ?_
                      refine wp_region_held_drew (S := fun u => Below wr.heap.size wr u) (by kernel_rfl) (Below.refl _ _).drew (fun hS0 => ?_)
                      have HS0 := Lib.hid hS0
                      clear hS0
                      refine take_val 0 (.pointer (some ⟨ob, 1, none⟩)) rfl (by kernel_rfl) (by kernel_rfl) (by kernel_rfl) (fun _ _ _ _ h => h) (by rfl) rfl (fun wz hS => by go_simp) HS0.out ?_
                      try simp only [List.set_cons_zero, List.set_cons_succ]
                      refine take_val 1 (.slice (some ⟨g, off, none⟩) M.length d2) rfl (by kernel_rfl) (by kernel_rfl) (by kernel_rfl) (fun _ _ _ _ h => h) (by rfl) rfl (fun wz hS => by have hz := cell_of_row _ _ 1 _ _ _ ((hS.block _ (lt_of_block HSR.out.2.2.1)).trans HSR.out.2.2.1); simp only [List.getElem?_toArray, List.getElem?_cons_zero, List.getElem?_cons_succ] at hz; go_simp) HS0.out ?_
                      try simp only [List.set_cons_zero, List.set_cons_succ]
                      refine take_val 2 (.int .i64 (M.length : Int)) rfl (by kernel_rfl) (by kernel_rfl) (by kernel_rfl) (fun _ _ _ _ h => h) (by rfl) rfl (fun wz hS => by go_simp) HS0.out ?_
                      try simp only [List.set_cons_zero, List.set_cons_succ]
                      refine take_val 3 (.bool true) rfl (by kernel_rfl) (by kernel_rfl) (by kernel_rfl) (fun _ _ _ _ h => h) (by rfl) rfl (fun wz hS => by go_simp) HS0.out ?_
                      try simp only [List.set_cons_zero, List.set_cons_succ]
                      refine take_val 4 (.bool true) rfl (by kernel_rfl) (by kernel_rfl) (by kernel_rfl) (fun _ _ _ _ h => h) (by rfl) rfl (fun wz hS => by go_simp) HS0.out ?_
                      try simp only [List.set_cons_zero, List.set_cons_succ]
                      refine take_val 5 (.pointer (some ⟨ob, 1, none⟩)) rfl (by kernel_rfl) (by kernel_rfl) (by kernel_rfl) (fun _ _ _ _ h => h) (by rfl) rfl (fun wz hS => by go_simp) HS0.out ?_
                      try simp only [List.set_cons_zero, List.set_cons_succ]
                      refine take_val 6 (.slice (some ⟨g, off, none⟩) M.length d2) rfl (by kernel_rfl) (by kernel_rfl) (by kernel_rfl) (fun _ _ _ _ h => h) (by rfl) rfl (fun wz hS => by have hz := cell_of_row _ _ 1 _ _ _ ((hS.block _ (lt_of_block HSR.out.2.2.1)).trans HSR.out.2.2.1); simp only [List.getElem?_toArray, List.getElem?_cons_zero, List.getElem?_cons_succ] at hz; go_simp) HS0.out ?_
                      try simp only [List.set_cons_zero, List.set_cons_succ]
                      refine take_val 7 (.pointer (some ⟨g, off, none⟩)) rfl (by kernel_rfl) (by kernel_rfl) (by kernel_rfl) (fun _ _ _ _ h => h) (by rfl) rfl (fun wz hS => by go_simp) HS0.out ?_
                      try simp only [List.set_cons_zero, List.set_cons_succ]
                      refine take_val 8 (.pointer (some ⟨g, off + 1, none⟩)) rfl (by kernel_rfl) (by kernel_rfl) (by kernel_rfl) (fun _ _ _ _ h => h) (by rfl) rfl (fun wz hS => by go_simp) HS0.out ?_
                      try simp only [List.set_cons_zero, List.set_cons_succ]
                      refine take_val 9 (.int .i64 yq) rfl (by kernel_rfl) (by kernel_rfl) (by kernel_rfl) (fun _ _ _ _ h => h) (by rfl) rfl (fun wz hS => by have hz := (hS.cell (p := ⟨g, off + 1, none⟩) HGL.out).trans HY1.out; go_simp) HS0.out ?_
                      try simp only [List.set_cons_zero, List.set_cons_succ]
                      refine take_val 10 (.pointer (some ⟨ob, 0, none⟩)) rfl (by kernel_rfl) (by kernel_rfl) (by kernel_rfl) (fun _ _ _ _ h => h) (by rfl) rfl (fun wz hS => by go_simp) HS0.out ?_
                      try simp only [List.set_cons_zero, List.set_cons_succ]
                      refine take_val 11 (.slice b1 GJ.length d1) rfl (by kernel_rfl) (by kernel_rfl) (by kernel_rfl) (fun _ _ _ _ h => h) (by rfl) rfl (fun wz hS => by have hz := cell_of_row _ _ 0 _ _ _ ((hS.block _ (lt_of_block HSR.out.2.2.1)).trans HSR.out.2.2.1); simp only [List.getElem?_toArray, List.getElem?_cons_zero, List.getElem?_cons_succ] at hz; go_simp) HS0.out ?_
                      try simp only [List.set_cons_zero, List.set_cons_succ]
                      refine take_val 12 (.int .i64 (GJ.length : Int)) rfl (by kernel_rfl) (by kernel_rfl) (by kernel_rfl) (fun _ _ _ _ h => h) (by rfl) rfl (fun wz hS => by go_simp) HS0.out ?_
                      try simp only [List.set_cons_zero, List.set_cons_succ]
                      refine take_val 13 (.bool true) rfl (by kernel_rfl) (by kernel_rfl) (by kernel_rfl) (fun _ _ _ _ h => h) (by rfl) rfl (fun wz hS => by go_simp) HS0.out ?_
                      try simp only [List.set_cons_zero, List.set_cons_succ]
                      refine take_val 14 (.bool true) rfl (by kernel_rfl) (by kernel_rfl) (by kernel_rfl) (fun _ _ _ _ h => h) (by rfl) rfl (fun wz hS => by go_simp) HS0.out ?_
                      try simp only [List.set_cons_zero, List.set_cons_succ]
                      refine wpAnyH_done (by kernel_rfl) ?_ _
                      refine NoPanic.normal ?_
                      have HRD := Lib.hid (HSR.out.below HS0.out)
                      have HBD := Lib.hid (Below.step HBW.out HS0.out)
                      have HPD := Lib.hid ((HS0.out.block _ (lt_of_block HPW.out)).trans HPW.out)
                      have HZD := Lib.hid ((HS0.out.block _ (lt_of_block HZW.out)).trans HZW.out)
                      have HY2D := Lib.hid ((HS0.out.cell (p := ⟨g, off + 2, none⟩) HGL.out).trans HY2.out)
                      clear HS0
                      generalize wr.drew = wd at *
                      go_wp2_with fail
                      refine wp_region_noPanic ?_
                      refine wp_region_held_drew (S := fun _ => True) (by kernel_rfl) trivial (fun _hS0 => ?_)
                      clear _hS0
                      have HRU := Lib.hid (HRD.out.below ((Below.refl _ _).drew))
                      have HBU1 := Lib.hid HBD.out.drew
                      have HPU := Lib.hid (show wd.drew.heap[w.heap.size + 1]? = _ from HPD.out)
                      have HZU := Lib.hid (show wd.drew.heap[w.heap.size + 1 + 1]? = _ from HZD.out)
                      have HY2U := Lib.hid (show wd.drew.cell? ⟨g, off + 2, none⟩ = _ from HY2D.out)
                      generalize wd.drew = u1 at *
                      have x0 := cell_of_row _ _ 0 _ _ _ HRU.out.2.2.1
                      have x1 := cell_of_row _ _ 1 _ _ _ HRU.out.2.2.1
                      simp only [List.getElem?_toArray, List.getElem?_cons_succ, List.getElem?_cons_zero] at x0 x1
                      have x0a := Lib.cell?_alloc_some (.cells #[.string yt] 9) x0
                      have y2 := HY2U.out
                      have D1 := Lib.hid (cells_new_at u1 u1.heap.size rfl #[.string yt] 9 (stC yt) rfl)
                      have HONE := Lib.hid (stC_one yt)
                      have D3 : Hid (GJ.length + 1 ≤ maxLen) := by show _ ≤ _; unfold maxLen; omega
                      have D4 : Hid ((GJ.length + 1) * 16 ≤ 140737488355328) := by show _ ≤ _; omega
                      have D5 : Hid (w1.heap.size ≤ (u1.alloc (.cells #[.string yt] 9)).heap.size) := by show _ ≤ _; have := HRU.out.2.2.2; have := lt_of_block HRU.out.2.2.1; simp; omega
                      refine take_val 0 (.pointer (some ⟨ob, 0, none⟩)) rfl (by kernel_rfl) (by kernel_rfl) (by kernel_rfl) (fun _ _ _ _ h => h) (by rfl) rfl (fun wz hS => by go_simp) trivial ?_
                      try simp only [List.set_cons_zero, List.set_cons_succ]
                      refine take_val 2 (.pointer (some ⟨ob, 1, none⟩)) rfl (by kernel_rfl) (by kernel_rfl) (by kernel_rfl) (fun _ _ _ _ h => h) (by rfl) rfl (fun wz hS => by go_simp) trivial ?_
                      try simp only [List.set_cons_zero, List.set_cons_succ]
                      refine two_ready 1 3 (by kernel_rfl) rfl rfl (by rfl) (by rfl) (fun K hK => ?_) (fun K hK => ?_)
                      · go_simp
                        refine hK.out _ _ trivial ?_
                        clear hK K
                        try simp only [Act.put, List.setIfInBounds_toArray]
                        try simp only [List.set_cons_zero, List.set_cons_succ]
                        refine one_ready 3 (by kernel_rfl) rfl (by rfl) (fun K hK => ?_)
                        go_simp
                        refine hK.out _ _ trivial ?_
                        clear hK K
                        try simp only [Act.put, List.setIfInBounds_toArray]
                        try simp only [List.set_cons_zero, List.set_cons_succ]
                        refine take_val 4 (.pointer (some ⟨g, off, none⟩)) rfl (by kernel_rfl) (by kernel_rfl) (by kernel_rfl) (fun _ _ _ _ h => h) (by rfl) rfl (fun wz hS => by go_simp) trivial ?_
                        try simp only [List.set_cons_zero, List.set_cons_succ]
                        refine take_val 5 (.pointer (some ⟨g, off + 2, none⟩)) rfl (by kernel_rfl) (by kernel_rfl) (by kernel_rfl) (fun _ _ _ _ h => h) (by rfl) rfl (fun wz hS => by go_simp) trivial ?_
                        try simp only [List.set_cons_zero, List.set_cons_succ]
                        refine one_ready 6 (by kernel_rfl) rfl (by rfl) (fun K hK => ?_)
                        go_simp
                        refine hK.out _ _ trivial ?_
                        clear hK K
                        try simp only [Act.put, List.setIfInBounds_toArray]
                        try simp only [List.set_cons_zero, List.set_cons_succ]
                        refine one_ready 7 (by kernel_rfl) rfl (by rfl) (fun K hK => ?_)
                        go_simp
                        refine hK.out _ _ trivial ?_
                        clear hK K
                        try simp only [Act.put, List.setIfInBounds_toArray]
                        try simp only [List.set_cons_zero, List.set_cons_succ]
                        refine one_ready 8 (by kernel_rfl) rfl (by rfl) (fun K hK => ?_)
                        refine wp_append_own _ _ _ 22 rfl w1.heap.size 9 i0 (.string ⟨#[]⟩) 1 16 Try.underlying22 hi0 hz0 hz1 hz2 rfl (by decide) _ GJ.length (GJ.flatMap stC) rfl (HRU.out.1.alloc (.cells #[.string yt] 9)) ⟨u1.heap.size, 0, none⟩ 1 1 (stC yt) rfl rfl D1.out HONE.out D3.out D4.out D5.out (fun v' w' hown' hgrow _ => ?_)
                        obtain ⟨oa, oc, rfl⟩ := own_formK hown'
                        have HOWN : Hid (w'.ownsRow w1.heap.size 9 1 (.slice oa (GJ ++ [yt]).length oc) (GJ ++ [yt]).length ((GJ ++ [yt]).flatMap stC)) := by
                          show w'.ownsRow _ _ _ _ _ _
                          rw [List.length_append, List.flatMap_append, List.flatMap_singleton]
                          exact hown'
                        have HRA := Lib.hid (HRU.out.below ((Below.refl u1.heap.size u1).alloc (Nat.le_refl _) (.cells #[.string yt] 9)))
                        have HGR := Lib.hid hgrow
                        have HROWW := Lib.hid ((hgrow.block ob (lt_of_block HRA.out.2.2.1) (own_neqK HRA.out.1 HRA.out.2.2.1 (by decide))).trans HRA.out.2.2.1)
                        have z0 := cell_of_row _ _ 0 _ _ _ HROWW.out
                        have zf := frozen_of_row _ _ 0 _ _ HROWW.out
                        simp only [List.getElem?_toArray, List.getElem?_cons_succ, List.getElem?_cons_zero] at z0
                        clear hown' hgrow
                        refine hK.out _ _ trivial ?_
                        clear hK K
                        try simp only [Act.put, List.setIfInBounds_toArray]
                        try simp only [List.set_cons_zero, List.set_cons_succ]
                        refine take_val 9 (.pointer (some ⟨ob, 0, none⟩)) rfl (by kernel_rfl) (by kernel_rfl) (by kernel_rfl) (fun _ _ _ _ h => h) (by rfl) rfl (fun wz hS => by go_simp) trivial ?_
                        try simp only [List.set_cons_zero, List.set_cons_succ]
                        refine one_ready 10 (by kernel_rfl) rfl (by rfl) (fun K hK => ?_)
                        go_simp
                        refine hK.out _ _ trivial ?_
                        clear hK K
                        try simp only [Act.put, List.setIfInBounds_toArray]
                        try simp only [List.set_cons_zero, List.set_cons_succ]
                        refine wpAnyH_done (by kernel_rfl) ?_ _
                        refine NoPanic.normal ?_
                        have hstr := HRA.out.strings HGR.out HOWN.out
                        have hlen : (GJ ++ [yt]).length = GJ.length + 1 := by simp
                        have HRN : Hid (RSt w1.heap.size ob oa oc (some ⟨g, off, none⟩) d2 (GJ ++ [yt]) M (w'.setCell ⟨ob, 0, none⟩ (.slice oa (GJ.length + 1) oc))) := by
                          show RSt _ _ _ _ _ _ _ _ _
                          rw [← hlen]
                          exact hstr
                        clear hlen
                        have v1 := cell_of_row _ _ 1 _ _ _ HRN.out.2.2.1
                        have vf := frozen_of_row _ _ 1 _ _ HRN.out.2.2.1
                        simp only [List.getElem?_toArray, List.getElem?_cons_succ, List.getElem?_cons_zero] at v1
                        have HBA := Lib.hid (below_own (HBU1.out.alloc HBU1.out.size (.cells #[.string yt] 9)) HGR.out (by have := HBU1.out.size; have := HSZ1.out; simp; omega) (HRU.out.1.alloc (.cells #[.string yt] 9)) (by have := HSZ1.out; omega))
                        have HBN := Lib.hid (HBA.out.setCell (p := ⟨ob, 0, none⟩) (by have := HSR.out.2.2.2; have := HSZ1.out; show _ ≤ ob; omega) (.slice oa (GJ.length + 1) oc))
                        have hk1 : w.heap.size + 1 + 1 < w1.heap.size := by have := HSZ1.out; omega
                        have HP1N := Lib.hid ((Below.heap_setCell w' ⟨ob, 0, none⟩ (.slice oa (GJ.length + 1) oc) (w.heap.size + 1) (by have := HSR.out.2.2.2; show _ ≠ ob; omega)).trans ((HGR.out.block _ (by have := lt_of_block HPU.out; simp; omega) (ownblock_ne HRA.out.1 (by omega))).trans ((Below.heap_alloc u1 (.cells #[.string yt] 9) _ (lt_of_block HPU.out)).trans HPU.out)))
                        have HP2N := Lib.hid ((Below.heap_setCell w' ⟨ob, 0, none⟩ (.slice oa (GJ.length + 1) oc) (w.heap.size + 1 + 1) (by have := HSR.out.2.2.2; show _ ≠ ob; omega)).trans ((HGR.out.block _ (by have := lt_of_block HZU.out; simp; omega) (ownblock_ne HRA.out.1 (by omega))).trans ((Below.heap_alloc u1 (.cells #[.string yt] 9) _ (lt_of_block HZU.out)).trans HZU.out)))
                        clear hstr z0 zf hk1
                        have HNX : Hid (∀ i (h : i < held.length), i < j + 1 → held[i].2.1 = (got.length : Int) + i) := fun i h1 h2 => by
                          rcases Nat.lt_or_ge i j with h3 | h3
                          · exact HDR.out i h1 h3
                          · obtain rfl : i = j := by omega
                            exact HYL.out
                        have HGN : Hid (got ++ (held.take (j + 1)).map (fun q => q.2.2) = GJ ++ [yt]) := by
                          show _ = _
                          rw [List.take_succ_eq_append_getElem hjL, List.map_append, ← List.append_assoc, HGJ.out]
                          have := HYP.out
                          simp only [this, List.map_cons, List.map_nil]
                        have HMN : Hid (held.drop (j + 1) = M.drop 1) := by
                          show _ = _
                          rw [← HM.out, List.drop_drop]
                        have HML1 : Hid ((M.drop 1).length = M.length - 1) := List.length_drop ..
                        have c1' : (1 : Int) ≤ (M.length : Int) := by omega
                        have HTL := Lib.hid (HRN.out.2.1.1.tail (c := pkC))
                        by_cases hd : d2 = 1
                        · have hM1 : M.length = 1 := by have := HRN.out.2.1.2.2.1; omega
                          have HRF := Lib.hid (HRN.out.row (b2 := some ⟨g, off, none⟩) (M := M.drop 1) (d2 := 0) ⟨by rw [List.drop_of_length_le (by omega)]; exact SAt.nil, HRN.out.2.1.2.1, by rw [HML1.out]; omega, by omega⟩)
                          rw [HML1.out, show M.length - 1 = 0 by omega] at HRF
                          subst hd
                          go_wp2_with fail
                          go_roundw
                          case rel => exact ⟨j + 1, oa, oc, _, _, hjL, Lib.hid (by rw [HGN.out, HMN.out]; exact HRF.out), Lib.hid (HBN.out.setCell (p := ⟨ob, 1, none⟩) (by have := HSR.out.2.2.2; have := HSZ1.out; show _ ≤ ob; omega) _), Lib.hid ((Below.heap_setCell _ ⟨ob, 1, none⟩ _ (w.heap.size + 1) (by have := HSR.out.2.2.2; have := HSZ1.out; show _ ≠ ob; omega)).trans HP1N.out), Lib.hid ((Below.heap_setCell _ ⟨ob, 1, none⟩ _ (w.heap.size + 1 + 1) (by have := HSR.out.2.2.2; have := HSZ1.out; show _ ≠ ob; omega)).trans HP2N.out), HNX⟩
                          case measure =>
                            have e2 := cell_of_row _ _ 1 _ _ _ HRF.out.2.2.1
                            have e1 := cell_of_row _ _ 1 _ _ _ HSR.out.2.2.1
                            simp only [List.getElem?_toArray, List.getElem?_cons_succ, List.getElem?_cons_zero] at e1 e2
                            rw [e1, e2]
                            simp only [Option.getD_some, lenOfV]
                            have := HML1.out
                            omega
                        · have hd' : ¬ (d2 = 1) := hd
                          have HRF := Lib.hid (HRN.out.row (b2 := some ⟨g, off + 3, none⟩) (M := M.drop 1) (d2 := d2 - 1) ⟨HTL.out, fun ad e => by injection e with e; subst e; exact HRN.out.2.1.2.1 ⟨g, off, none⟩ rfl, by rw [HML1.out]; have := HRN.out.2.1.2.2.1; omega, by have := HRN.out.2.1.2.2.2; omega⟩)
                          rw [HML1.out] at HRF
                          go_wp2_with fail
                          go_roundw
                          case rel => exact ⟨j + 1, oa, oc, _, _, hjL, Lib.hid (by rw [HGN.out, HMN.out]; exact HRF.out), Lib.hid (HBN.out.setCell (p := ⟨ob, 1, none⟩) (by have := HSR.out.2.2.2; have := HSZ1.out; show _ ≤ ob; omega) _), Lib.hid ((Below.heap_setCell _ ⟨ob, 1, none⟩ _ (w.heap.size + 1) (by have := HSR.out.2.2.2; have := HSZ1.out; show _ ≠ ob; omega)).trans HP1N.out), Lib.hid ((Below.heap_setCell _ ⟨ob, 1, none⟩ _ (w.heap.size + 1 + 1) (by have := HSR.out.2.2.2; have := HSZ1.out; show _ ≠ ob; omega)).trans HP2N.out), HNX⟩
                          case measure =>
                            have e2 := cell_of_row _ _ 1 _ _ _ HRF.out.2.2.1
                            have e1 := cell_of_row _ _ 1 _ _ _ HSR.out.2.2.1
                            simp only [List.getElem?_toArray, List.getElem?_cons_succ, List.getElem?_cons_zero] at e1 e2
                            rw [e1, e2]
                            simp only [Option.getD_some, lenOfV]
                            have := HML1.out
                            omega
                      · go_simp
                        refine hK.out _ _ trivial ?_
                        clear hK K
                        try simp only [Act.put, List.setIfInBounds_toArray]
                        try simp only [List.set_cons_zero, List.set_cons_succ]
                        refine take_val 4 (.pointer (some ⟨g, off, none⟩)) rfl (by kernel_rfl) (by kernel_rfl) (by kernel_rfl) (fun _ _ _ _ h => h) (by rfl) rfl (fun wz hS => by go_simp) trivial ?_
                        try simp only [List.set_cons_zero, List.set_cons_succ]
                        refine take_val 5 (.pointer (some ⟨g, off + 2, none⟩)) rfl (by kernel_rfl) (by kernel_rfl) (by kernel_rfl) (fun _ _ _ _ h => h) (by rfl) rfl (fun wz hS => by go_simp) trivial ?_
                        try simp only [List.set_cons_zero, List.set_cons_succ]
                        refine two_ready 1 6 (by kernel_rfl) rfl rfl (by rfl) (by rfl) (fun K hK => ?_) (fun K hK => ?_)
                        · go_simp
                          refine hK.out _ _ trivial ?_
                          clear hK K
                          try simp only [Act.put, List.setIfInBounds_toArray]
                          try simp only [List.set_cons_zero, List.set_cons_succ]
                          refine one_ready 6 (by kernel_rfl) rfl (by rfl) (fun K hK => ?_)
                          go_simp
                          refine hK.out _ _ trivial ?_
                          clear hK K
                          try simp only [Act.put, List.setIfInBounds_toArray]
                          try simp only [List.set_cons_zero, List.set_cons_succ]
                          refine one_ready 7 (by kernel_rfl) rfl (by rfl) (fun K hK => ?_)
                          go_simp
                          refine hK.out _ _ trivial ?_
                          clear hK K
                          try simp only [Act.put, List.setIfInBounds_toArray]
                          try simp only [List.set_cons_zero, List.set_cons_succ]
                          refine one_ready 8 (by kernel_rfl) rfl (by rfl) (fun K hK => ?_)
                          refine wp_append_own _ _ _ 22 rfl w1.heap.size 9 i0 (.string ⟨#[]⟩) 1 16 Try.underlying22 hi0 hz0 hz1 hz2 rfl (by decide) _ GJ.length (GJ.flatMap stC) rfl (HRU.out.1.alloc (.cells #[.string yt] 9)) ⟨u1.heap.size, 0, none⟩ 1 1 (stC yt) rfl rfl D1.out HONE.out D3.out D4.out D5.out (fun v' w' hown' hgrow _ => ?_)
                          obtain ⟨oa, oc, rfl⟩ := own_formK hown'
                          have HOWN : Hid (w'.ownsRow w1.heap.size 9 1 (.slice oa (GJ ++ [yt]).length oc) (GJ ++ [yt]).length ((GJ ++ [yt]).flatMap stC)) := by
                            show w'.ownsRow _ _ _ _ _ _
                            rw [List.length_append, List.flatMap_append, List.flatMap_singleton]
                            exact hown'
                          have HRA := Lib.hid (HRU.out.below ((Below.refl u1.heap.size u1).alloc (Nat.le_refl _) (.cells #[.string yt] 9)))
                          have HGR := Lib.hid hgrow
                          have HROWW := Lib.hid ((hgrow.block ob (lt_of_block HRA.out.2.2.1) (own_neqK HRA.out.1 HRA.out.2.2.1 (by decide))).trans HRA.out.2.2.1)
                          have z0 := cell_of_row _ _ 0 _ _ _ HROWW.out
                          have zf := frozen_of_row _ _ 0 _ _ HROWW.out
                          simp only [List.getElem?_toArray, List.getElem?_cons_succ, List.getElem?_cons_zero] at z0
                          clear hown' hgrow
                          refine hK.out _ _ trivial ?_
                          clear hK K
                          try simp only [Act.put, List.setIfInBounds_toArray]
                          try simp only [List.set_cons_zero, List.set_cons_succ]
                          refine take_val 9 (.pointer (some ⟨ob, 0, none⟩)) rfl (by kernel_rfl) (by kernel_rfl) (by kernel_rfl) (fun _ _ _ _ h => h) (by rfl) rfl (fun wz hS => by go_simp) trivial ?_
                          try simp only [List.set_cons_zero, List.set_cons_succ]
                          refine one_ready 10 (by kernel_rfl) rfl (by rfl) (fun K hK => ?_)
                          go_simp
                          refine hK.out _ _ trivial ?_
                          clear hK K
                          try simp only [Act.put, List.setIfInBounds_toArray]
                          try simp only [List.set_cons_zero, List.set_cons_succ]
                          refine wpAnyH_done (by kernel_rfl) ?_ _
                          refine NoPanic.normal ?_
                          have hstr := HRA.out.strings HGR.out HOWN.out
                          have hlen : (GJ ++ [yt]).length = GJ.length + 1 := by simp
                          have HRN : Hid (RSt w1.heap.size ob oa oc (some ⟨g, off, none⟩) d2 (GJ ++ [yt]) M (w'.setCell ⟨ob, 0, none⟩ (.slice oa (GJ.length + 1) oc))) := by
                            show RSt _ _ _ _ _ _ _ _ _
                            rw [← hlen]
                            exact hstr
                          clear hlen
                          have v1 := cell_of_row _ _ 1 _ _ _ HRN.out.2.2.1
                          have vf := frozen_of_row _ _ 1 _ _ HRN.out.2.2.1
                          simp only [List.getElem?_toArray, List.getElem?_cons_succ, List.getElem?_cons_zero] at v1
                          have HBA := Lib.hid (below_own (HBU1.out.alloc HBU1.out.size (.cells #[.string yt] 9)) HGR.out (by have := HBU1.out.size; have := HSZ1.out; simp; omega) (HRU.out.1.alloc (.cells #[.string yt] 9)) (by have := HSZ1.out; omega))
                          have HBN := Lib.hid (HBA.out.setCell (p := ⟨ob, 0, none⟩) (by have := HSR.out.2.2.2; have := HSZ1.out; show _ ≤ ob; omega) (.slice oa (GJ.length + 1) oc))
                          have hk1 : w.heap.size + 1 + 1 < w1.heap.size := by have := HSZ1.out; omega
                          have HP1N := Lib.hid ((Below.heap_setCell w' ⟨ob, 0, none⟩ (.slice oa (GJ.length + 1) oc) (w.heap.size + 1) (by have := HSR.out.2.2.2; show _ ≠ ob; omega)).trans ((HGR.out.block _ (by have := lt_of_block HPU.out; simp; omega) (ownblock_ne HRA.out.1 (by omega))).trans ((Below.heap_alloc u1 (.cells #[.string yt] 9) _ (lt_of_block HPU.out)).trans HPU.out)))
                          have HP2N := Lib.hid ((Below.heap_setCell w' ⟨ob, 0, none⟩ (.slice oa (GJ.length + 1) oc) (w.heap.size + 1 + 1) (by have := HSR.out.2.2.2; show _ ≠ ob; omega)).trans ((HGR.out.block _ (by have := lt_of_block HZU.out; simp; omega) (ownblock_ne HRA.out.1 (by omega))).trans ((Below.heap_alloc u1 (.cells #[.string yt] 9) _ (lt_of_block HZU.out)).trans HZU.out)))
                          clear hstr z0 zf hk1
                          have HNX : Hid (∀ i (h : i < held.length), i < j + 1 → held[i].2.1 = (got.length : Int) + i) := fun i h1 h2 => by
                            rcases Nat.lt_or_ge i j with h3 | h3
                            · exact HDR.out i h1 h3
                            · obtain rfl : i = j := by omega
                              exact HYL.out
                          have HGN : Hid (got ++ (held.take (j + 1)).map (fun q => q.2.2) = GJ ++ [yt]) := by
                            show _ = _
                            rw [List.take_succ_eq_append_getElem hjL, List.map_append, ← List.append_assoc, HGJ.out]
                            have := HYP.out
                            simp only [this, List.map_cons, List.map_nil]
                          have HMN : Hid (held.drop (j + 1) = M.drop 1) := by
                            show _ = _
                            rw [← HM.out, List.drop_drop]
                          have HML1 : Hid ((M.drop 1).length = M.length - 1) := List.length_drop ..
                          have c1' : (1 : Int) ≤ (M.length : Int) := by omega
                          have HTL := Lib.hid (HRN.out.2.1.1.tail (c := pkC))
                          by_cases hd : d2 = 1
                          · have hM1 : M.length = 1 := by have := HRN.out.2.1.2.2.1; omega
                            have HRF := Lib.hid (HRN.out.row (b2 := some ⟨g, off, none⟩) (M := M.drop 1) (d2 := 0) ⟨by rw [List.drop_of_length_le (by omega)]; exact SAt.nil, HRN.out.2.1.2.1, by rw [HML1.out]; omega, by omega⟩)
                            rw [HML1.out, show M.length - 1 = 0 by omega] at HRF
                            subst hd
                            go_wp2_with fail
                            go_roundw
                            case rel => exact ⟨j + 1, oa, oc, _, _, hjL, Lib.hid (by rw [HGN.out, HMN.out]; exact HRF.out), Lib.hid (HBN.out.setCell (p := ⟨ob, 1, none⟩) (by have := HSR.out.2.2.2; have := HSZ1.out; show _ ≤ ob; omega) _), Lib.hid ((Below.heap_setCell _ ⟨ob, 1, none⟩ _ (w.heap.size + 1) (by have := HSR.out.2.2.2; have := HSZ1.out; show _ ≠ ob; omega)).trans HP1N.out), Lib.hid ((Below.heap_setCell _ ⟨ob, 1, none⟩ _ (w.heap.size + 1 + 1) (by have := HSR.out.2.2.2; have := HSZ1.out; show _ ≠ ob; omega)).trans HP2N.out), HNX⟩
                            case measure =>
                              have e2 := cell_of_row _ _ 1 _ _ _ HRF.out.2.2.1
                              have e1 := cell_of_row _ _ 1 _ _ _ HSR.out.2.2.1
                              simp only [List.getElem?_toArray, List.getElem?_cons_succ, List.getElem?_cons_zero] at e1 e2
                              rw [e1, e2]
                              simp only [Option.getD_some, lenOfV]
                              have := HML1.out
                              omega
                          · have hd' : ¬ (d2 = 1) := hd
                            have HRF := Lib.hid (HRN.out.row (b2 := some ⟨g, off + 3, none⟩) (M := M.drop 1) (d2 := d2 - 1) ⟨HTL.out, fun ad e => by injection e with e; subst e; exact HRN.out.2.1.2.1 ⟨g, off, none⟩ rfl, by rw [HML1.out]; have := HRN.out.2.1.2.2.1; omega, by have := HRN.out.2.1.2.2.2; omega⟩)
                            rw [HML1.out] at HRF
                            go_wp2_with fail
                            go_roundw
                            case rel => exact ⟨j + 1, oa, oc, _, _, hjL, Lib.hid (by rw [HGN.out, HMN.out]; exact HRF.out), Lib.hid (HBN.out.setCell (p := ⟨ob, 1, none⟩) (by have := HSR.out.2.2.2; have := HSZ1.out; show _ ≤ ob; omega) _), Lib.hid ((Below.heap_setCell _ ⟨ob, 1, none⟩ _ (w.heap.size + 1) (by have := HSR.out.2.2.2; have := HSZ1.out; show _ ≠ ob; omega)).trans HP1N.out), Lib.hid ((Below.heap_setCell _ ⟨ob, 1, none⟩ _ (w.heap.size + 1 + 1) (by have := HSR.out.2.2.2; have := HSZ1.out; show _ ≠ ob; omega)).trans HP2N.out), HNX⟩
                            case measure =>
                              have e2 := cell_of_row _ _ 1 _ _ _ HRF.out.2.2.1
                              have e1 := cell_of_row _ _ 1 _ _ _ HSR.out.2.2.1
                              simp only [List.getElem?_toArray, List.getElem?_cons_succ, List.getElem?_cons_zero] at e1 e2
                              rw [e1, e2]
                              simp only [Option.getD_some, lenOfV]
                              have := HML1.out
                              omega
                        · go_simp
                          refine hK.out _ _ trivial ?_
                          clear hK K
                          try simp only [Act.put, List.setIfInBounds_toArray]
                          try simp only [List.set_cons_zero, List.set_cons_succ]
                          refine two_ready 1 7 (by kernel_rfl) rfl rfl (by rfl) (by rfl) (fun K hK => ?_) (fun K hK => ?_)
                          · go_simp
                            refine hK.out _ _ trivial ?_
                            clear hK K
                            try simp only [Act.put, List.setIfInBounds_toArray]
                            try simp only [List.set_cons_zero, List.set_cons_succ]
                            refine one_ready 7 (by kernel_rfl) rfl (by rfl) (fun K hK => ?_)
                            go_simp
                            refine hK.out _ _ trivial ?_
                            clear hK K
                            try simp only [Act.put, List.setIfInBounds_toArray]
                            try simp only [List.set_cons_zero, List.set_cons_succ]
                            refine one_ready 8 (by kernel_rfl) rfl (by rfl) (fun K hK => ?_)
                            refine wp_append_own _ _ _ 22 rfl w1.heap.size 9 i0 (.string ⟨#[]⟩) 1 16 Try.underlying22 hi0 hz0 hz1 hz2 rfl (by decide) _ GJ.length (GJ.flatMap stC) rfl (HRU.out.1.alloc (.cells #[.string yt] 9)) ⟨u1.heap.size, 0, none⟩ 1 1 (stC yt) rfl rfl D1.out HONE.out D3.out D4.out D5.out (fun v' w' hown' hgrow _ => ?_)
                            obtain ⟨oa, oc, rfl⟩ := own_formK hown'
                            have HOWN : Hid (w'.ownsRow w1.heap.size 9 1 (.slice oa (GJ ++ [yt]).length oc) (GJ ++ [yt]).length ((GJ ++ [yt]).flatMap stC)) := by
                              show w'.ownsRow _ _ _ _ _ _
                              rw [List.length_append, List.flatMap_append, List.flatMap_singleton]
                              exact hown'
                            have HRA := Lib.hid (HRU.out.below ((Below.refl u1.heap.size u1).alloc (Nat.le_refl _) (.cells #[.string yt] 9)))
                            have HGR := Lib.hid hgrow
                            have HROWW := Lib.hid ((hgrow.block ob (lt_of_block HRA.out.2.2.1) (own_neqK HRA.out.1 HRA.out.2.2.1 (by decide))).trans HRA.out.2.2.1)
                            have z0 := cell_of_row _ _ 0 _ _ _ HROWW.out
                            have zf := frozen_of_row _ _ 0 _ _ HROWW.out
                            simp only [List.getElem?_toArray, List.getElem?_cons_succ, List.getElem?_cons_zero] at z0
                            clear hown' hgrow
                            refine hK.out _ _ trivial ?_
                            clear hK K
                            try simp only [Act.put, List.setIfInBounds_toArray]
                            try simp only [List.set_cons_zero, List.set_cons_succ]
                            refine take_val 9 (.pointer (some ⟨ob, 0, none⟩)) rfl (by kernel_rfl) (by kernel_rfl) (by kernel_rfl) (fun _ _ _ _ h => h) (by rfl) rfl (fun wz hS => by go_simp) trivial ?_
                            try simp only [List.set_cons_zero, List.set_cons_succ]
                            refine one_ready 10 (by kernel_rfl) rfl (by rfl) (fun K hK => ?_)
                            go_simp
                            refine hK.out _ _ trivial ?_
                            clear hK K
                            try simp only [Act.put, List.setIfInBounds_toArray]
                            try simp only [List.set_cons_zero, List.set_cons_succ]
                            refine wpAnyH_done (by kernel_rfl) ?_ _
                            refine NoPanic.normal ?_
                            have hstr := HRA.out.strings HGR.out HOWN.out
                            have hlen : (GJ ++ [yt]).length = GJ.length + 1 := by simp
                            have HRN : Hid (RSt w1.heap.size ob oa oc (some ⟨g, off, none⟩) d2 (GJ ++ [yt]) M (w'.setCell ⟨ob, 0, none⟩ (.slice oa (GJ.length + 1) oc))) := by
                              show RSt _ _ _ _ _ _ _ _ _
                              rw [← hlen]
                              exact hstr
                            clear hlen
                            have v1 := cell_of_row _ _ 1 _ _ _ HRN.out.2.2.1
                            have vf := frozen_of_row _ _ 1 _ _ HRN.out.2.2.1
                            simp only [List.getElem?_toArray, List.getElem?_cons_succ, List.getElem?_cons_zero] at v1
                            have HBA := Lib.hid (below_own (HBU1.out.alloc HBU1.out.size (.cells #[.string yt] 9)) HGR.out (by have := HBU1.out.size; have := HSZ1.out; simp; omega) (HRU.out.1.alloc (.cells #[.string yt] 9)) (by have := HSZ1.out; omega))
                            have HBN := Lib.hid (HBA.out.setCell (p := ⟨ob, 0, none⟩) (by have := HSR.out.2.2.2; have := HSZ1.out; show _ ≤ ob; omega) (.slice oa (GJ.length + 1) oc))
                            have hk1 : w.heap.size + 1 + 1 < w1.heap.size := by have := HSZ1.out; omega
                            have HP1N := Lib.hid ((Below.heap_setCell w' ⟨ob, 0, none⟩ (.slice oa (GJ.length + 1) oc) (w.heap.size + 1) (by have := HSR.out.2.2.2; show _ ≠ ob; omega)).trans ((HGR.out.block _ (by have := lt_of_block HPU.out; simp; omega) (ownblock_ne HRA.out.1 (by omega))).trans ((Below.heap_alloc u1 (.cells #[.string yt] 9) _ (lt_of_block HPU.out)).trans HPU.out)))
                            have HP2N := Lib.hid ((Below.heap_setCell w' ⟨ob, 0, none⟩ (.slice oa (GJ.length + 1) oc) (w.heap.size + 1 + 1) (by have := HSR.out.2.2.2; show _ ≠ ob; omega)).trans ((HGR.out.block _ (by have := lt_of_block HZU.out; simp; omega) (ownblock_ne HRA.out.1 (by omega))).trans ((Below.heap_alloc u1 (.cells #[.string yt] 9) _ (lt_of_block HZU.out)).trans HZU.out)))
                            clear hstr z0 zf hk1
                            have HNX : Hid (∀ i (h : i < held.length), i < j + 1 → held[i].2.1 = (got.length : Int) + i) := fun i h1 h2 => by
                              rcases Nat.lt_or_ge i j with h3 | h3
                              · exact HDR.out i h1 h3
                              · obtain rfl : i = j := by omega
                                exact HYL.out
                            have HGN : Hid (got ++ (held.take (j + 1)).map (fun q => q.2.2) = GJ ++ [yt]) := by
                              show _ = _
                              rw [List.take_succ_eq_append_getElem hjL, List.map_append, ← List.append_assoc, HGJ.out]
                              have := HYP.out
                              simp only [this, List.map_cons, List.map_nil]
                            have HMN : Hid (held.drop (j + 1) = M.drop 1) := by
                              show _ = _
                              rw [← HM.out, List.drop_drop]
                            have HML1 : Hid ((M.drop 1).length = M.length - 1) := List.length_drop ..
                            have c1' : (1 : Int) ≤ (M.length : Int) := by omega
                            have HTL := Lib.hid (HRN.out.2.1.1.tail (c := pkC))
                            by_cases hd : d2 = 1
                            · have hM1 : M.length = 1 := by have := HRN.out.2.1.2.2.1; omega
                              have HRF := Lib.hid (HRN.out.row (b2 := some ⟨g, off, none⟩) (M := M.drop 1) (d2 := 0) ⟨by rw [List.drop_of_length_le (by omega)]; exact SAt.nil, HRN.out.2.1.2.1, by rw [HML1.out]; omega, by omega⟩)
                              rw [HML1.out, show M.length - 1 = 0 by omega] at HRF
                              subst hd
                              go_wp2_with fail
                              go_roundw
                              case rel => exact ⟨j + 1, oa, oc, _, _, hjL, Lib.hid (by rw [HGN.out, HMN.out]; exact HRF.out), Lib.hid (HBN.out.setCell (p := ⟨ob, 1, none⟩) (by have := HSR.out.2.2.2; have := HSZ1.out; show _ ≤ ob; omega) _), Lib.hid ((Below.heap_setCell _ ⟨ob, 1, none⟩ _ (w.heap.size + 1) (by have := HSR.out.2.2.2; have := HSZ1.out; show _ ≠ ob; omega)).trans HP1N.out), Lib.hid ((Below.heap_setCell _ ⟨ob, 1, none⟩ _ (w.heap.size + 1 + 1) (by have := HSR.out.2.2.2; have := HSZ1.out; show _ ≠ ob; omega)).trans HP2N.out), HNX⟩
                              case measure =>
                                have e2 := cell_of_row _ _ 1 _ _ _ HRF.out.2.2.1
                                have e1 := cell_of_row _ _ 1 _ _ _ HSR.out.2.2.1
                                simp only [List.getElem?_toArray, List.getElem?_cons_succ, List.getElem?_cons_zero] at e1 e2
                                rw [e1, e2]
                                simp only [Option.getD_some, lenOfV]
                                have := HML1.out
                                omega
                            · have hd' : ¬ (d2 = 1) := hd
                              have HRF := Lib.hid (HRN.out.row (b2 := some ⟨g, off + 3, none⟩) (M := M.drop 1) (d2 := d2 - 1) ⟨HTL.out, fun ad e => by injection e with e; subst e; exact HRN.out.2.1.2.1 ⟨g, off, none⟩ rfl, by rw [HML1.out]; have := HRN.out.2.1.2.2.1; omega, by have := HRN.out.2.1.2.2.2; omega⟩)
                              rw [HML1.out] at HRF
                              go_wp2_with fail
                              go_roundw
                              case rel => exact ⟨j + 1, oa, oc, _, _, hjL, Lib.hid (by rw [HGN.out, HMN.out]; exact HRF.out), Lib.hid (HBN.out.setCell (p := ⟨ob, 1, none⟩) (by have := HSR.out.2.2.2; have := HSZ1.out; show _ ≤ ob; omega) _), Lib.hid ((Below.heap_setCell _ ⟨ob, 1, none⟩ _ (w.heap.size + 1) (by have := HSR.out.2.2.2; have := HSZ1.out; show _ ≠ ob; omega)).trans HP1N.out), Lib.hid ((Below.heap_setCell _ ⟨ob, 1, none⟩ _ (w.heap.size + 1 + 1) (by have := HSR.out.2.2.2; have := HSZ1.out; show _ ≠ ob; omega)).trans HP2N.out), HNX⟩
                              case measure =>
                                have e2 := cell_of_row _ _ 1 _ _ _ HRF.out.2.2.1
                                have e1 := cell_of_row _ _ 1 _ _ _ HSR.out.2.2.1
                                simp only [List.getElem?_toArray, List.getElem?_cons_succ, List.getElem?_cons_zero] at e1 e2
                                rw [e1, e2]
                                simp only [Option.getD_some, lenOfV]
                                have := HML1.out
                                omega
                          · go_simp
                            refine hK.out _ _ trivial ?_
                            clear hK K
                            try simp only [Act.put, List.setIfInBounds_toArray]
                            try simp only [List.set_cons_zero, List.set_cons_succ]
                            refine one_ready 1 (by kernel_rfl) rfl (by rfl) (fun K hK => ?_)
                            go_simp
                            refine hK.out _ _ trivial ?_
                            clear hK K
                            try simp only [Act.put, List.setIfInBounds_toArray]
                            try simp only [List.set_cons_zero, List.set_cons_succ]
                            refine one_ready 8 (by kernel_rfl) rfl (by rfl) (fun K hK => ?_)
                            refine wp_append_own _ _ _ 22 rfl w1.heap.size 9 i0 (.string ⟨#[]⟩) 1 16 Try.underlying22 hi0 hz0 hz1 hz2 rfl (by decide) _ GJ.length (GJ.flatMap stC) rfl (HRU.out.1.alloc (.cells #[.string yt] 9)) ⟨u1.heap.size, 0, none⟩ 1 1 (stC yt) rfl rfl D1.out HONE.out D3.out D4.out D5.out (fun v' w' hown' hgrow _ => ?_)
                            obtain ⟨oa, oc, rfl⟩ := own_formK hown'
                            have HOWN : Hid (w'.ownsRow w1.heap.size 9 1 (.slice oa (GJ ++ [yt]).length oc) (GJ ++ [yt]).length ((GJ ++ [yt]).flatMap stC)) := by
                              show w'.ownsRow _ _ _ _ _ _
                              rw [List.length_append, List.flatMap_append, List.flatMap_singleton]
                              exact hown'
                            have HRA := Lib.hid (HRU.out.below ((Below.refl u1.heap.size u1).alloc (Nat.le_refl _) (.cells #[.string yt] 9)))
                            have HGR := Lib.hid hgrow
                            have HROWW := Lib.hid ((hgrow.block ob (lt_of_block HRA.out.2.2.1) (own_neqK HRA.out.1 HRA.out.2.2.1 (by decide))).trans HRA.out.2.2.1)
                            have z0 := cell_of_row _ _ 0 _ _ _ HROWW.out
                            have zf := frozen_of_row _ _ 0 _ _ HROWW.out
                            simp only [List.getElem?_toArray, List.getElem?_cons_succ, List.getElem?_cons_zero] at z0
                            clear hown' hgrow
                            refine hK.out _ _ trivial ?_
                            clear hK K
                            try simp only [Act.put, List.setIfInBounds_toArray]
                            try simp only [List.set_cons_zero, List.set_cons_succ]
                            refine take_val 9 (.pointer (some ⟨ob, 0, none⟩)) rfl (by kernel_rfl) (by kernel_rfl) (by kernel_rfl) (fun _ _ _ _ h => h) (by rfl) rfl (fun wz hS => by go_simp) trivial ?_
                            try simp only [List.set_cons_zero, List.set_cons_succ]
                            refine one_ready 10 (by kernel_rfl) rfl (by rfl) (fun K hK => ?_)
                            go_simp
                            refine hK.out _ _ trivial ?_
                            clear hK K
                            try simp only [Act.put, List.setIfInBounds_toArray]
                            try simp only [List.set_cons_zero, List.set_cons_succ]
                            refine wpAnyH_done (by kernel_rfl) ?_ _
                            refine NoPanic.normal ?_
                            have hstr := HRA.out.strings HGR.out HOWN.out
                            have hlen : (GJ ++ [yt]).length = GJ.length + 1 := by simp
                            have HRN : Hid (RSt w1.heap.size ob oa oc (some ⟨g, off, none⟩) d2 (GJ ++ [yt]) M (w'.setCell ⟨ob, 0, none⟩ (.slice oa (GJ.length + 1) oc))) := by
                              show RSt _ _ _ _ _ _ _ _ _
                              rw [← hlen]
                              exact hstr
                            clear hlen
                            have v1 := cell_of_row _ _ 1 _ _ _ HRN.out.2.2.1
                            have vf := frozen_of_row _ _ 1 _ _ HRN.out.2.2.1
                            simp only [List.getElem?_toArray, List.getElem?_cons_succ, List.getElem?_cons_zero] at v1
                            have HBA := Lib.hid (below_own (HBU1.out.alloc HBU1.out.size (.cells #[.string yt] 9)) HGR.out (by have := HBU1.out.size; have := HSZ1.out; simp; omega) (HRU.out.1.alloc (.cells #[.string yt] 9)) (by have := HSZ1.out; omega))
                            have HBN := Lib.hid (HBA.out.setCell (p := ⟨ob, 0, none⟩) (by have := HSR.out.2.2.2; have := HSZ1.out; show _ ≤ ob; omega) (.slice oa (GJ.length + 1) oc))
                            have hk1 : w.heap.size + 1 + 1 < w1.heap.size := by have := HSZ1.out; omega
                            have HP1N := Lib.hid ((Below.heap_setCell w' ⟨ob, 0, none⟩ (.slice oa (GJ.length + 1) oc) (w.heap.size + 1) (by have := HSR.out.2.2.2; show _ ≠ ob; omega)).trans ((HGR.out.block _ (by have := lt_of_block HPU.out; simp; omega) (ownblock_ne HRA.out.1 (by omega))).trans ((Below.heap_alloc u1 (.cells #[.string yt] 9) _ (lt_of_block HPU.out)).trans HPU.out)))
                            have HP2N := Lib.hid ((Below.heap_setCell w' ⟨ob, 0, none⟩ (.slice oa (GJ.length + 1) oc) (w.heap.size + 1 + 1) (by have := HSR.out.2.2.2; show _ ≠ ob; omega)).trans ((HGR.out.block _ (by have := lt_of_block HZU.out; simp; omega) (ownblock_ne HRA.out.1 (by omega))).trans ((Below.heap_alloc u1 (.cells #[.string yt] 9) _ (lt_of_block HZU.out)).trans HZU.out)))
                            clear hstr z0 zf hk1
                            have HNX : Hid (∀ i (h : i < held.length), i < j + 1 → held[i].2.1 = (got.length : Int) + i) := fun i h1 h2 => by
                              rcases Nat.lt_or_ge i j with h3 | h3
                              · exact HDR.out i h1 h3
                              · obtain rfl : i = j := by omega
                                exact HYL.out
                            have HGN : Hid (got ++ (held.take (j + 1)).map (fun q => q.2.2) = GJ ++ [yt]) := by
                              show _ = _
                              rw [List.take_succ_eq_append_getElem hjL, List.map_append, ← List.append_assoc, HGJ.out]
                              have := HYP.out
                              simp only [this, List.map_cons, List.map_nil]
                            have HMN : Hid (held.drop (j + 1) = M.drop 1) := by
                              show _ = _
                              rw [← HM.out, List.drop_drop]
                            have HML1 : Hid ((M.drop 1).length = M.length - 1) := List.length_drop ..
                            have c1' : (1 : Int) ≤ (M.length : Int) := by omega
                            have HTL := Lib.hid (HRN.out.2.1.1.tail (c := pkC))
                            by_cases hd : d2 = 1
                            · have hM1 : M.length = 1 := by have := HRN.out.2.1.2.2.1; omega
                              have HRF := Lib.hid (HRN.out.row (b2 := some ⟨g, off, none⟩) (M := M.drop 1) (d2 := 0) ⟨by rw [List.drop_of_length_le (by omega)]; exact SAt.nil, HRN.out.2.1.2.1, by rw [HML1.out]; omega, by omega⟩)
                              rw [HML1.out, show M.length - 1 = 0 by omega] at HRF
                              subst hd
                              go_wp2_with fail
                              go_roundw
                              case rel => exact ⟨j + 1, oa, oc, _, _, hjL, Lib.hid (by rw [HGN.out, HMN.out]; exact HRF.out), Lib.hid (HBN.out.setCell (p := ⟨ob, 1, none⟩) (by have := HSR.out.2.2.2; have := HSZ1.out; show _ ≤ ob; omega) _), Lib.hid ((Below.heap_setCell _ ⟨ob, 1, none⟩ _ (w.heap.size + 1) (by have := HSR.out.2.2.2; have := HSZ1.out; show _ ≠ ob; omega)).trans HP1N.out), Lib.hid ((Below.heap_setCell _ ⟨ob, 1, none⟩ _ (w.heap.size + 1 + 1) (by have := HSR.out.2.2.2; have := HSZ1.out; show _ ≠ ob; omega)).trans HP2N.out), HNX⟩
                              case measure =>
                                have e2 := cell_of_row _ _ 1 _ _ _ HRF.out.2.2.1
                                have e1 := cell_of_row _ _ 1 _ _ _ HSR.out.2.2.1
                                simp only [List.getElem?_toArray, List.getElem?_cons_succ, List.getElem?_cons_zero] at e1 e2
                                rw [e1, e2]
                                simp only [Option.getD_some, lenOfV]
                                have := HML1.out
                                omega
                            · have hd' : ¬ (d2 = 1) := hd
                              have HRF := Lib.hid (HRN.out.row (b2 := some ⟨g, off + 3, none⟩) (M := M.drop 1) (d2 := d2 - 1) ⟨HTL.out, fun ad e => by injection e with e; subst e; exact HRN.out.2.1.2.1 ⟨g, off, none⟩ rfl, by rw [HML1.out]; have := HRN.out.2.1.2.2.1; omega, by have := HRN.out.2.1.2.2.2; omega⟩)
                              rw [HML1.out] at HRF
                              go_wp2_with fail
                              go_roundw
                              case rel => exact ⟨j + 1, oa, oc, _, _, hjL, Lib.hid (by rw [HGN.out, HMN.out]; exact HRF.out), Lib.hid (HBN.out.setCell (p := ⟨ob, 1, none⟩) (by have := HSR.out.2.2.2; have := HSZ1.out; show _ ≤ ob; omega) _), Lib.hid ((Below.heap_setCell _ ⟨ob, 1, none⟩ _ (w.heap.size + 1) (by have := HSR.out.2.2.2; have := HSZ1.out; show _ ≠ ob; omega)).trans HP1N.out), Lib.hid ((Below.heap_setCell _ ⟨ob, 1, none⟩ _ (w.heap.size + 1 + 1) (by have := HSR.out.2.2.2; have := HSZ1.out; show _ ≠ ob; omega)).trans HP2N.out), HNX⟩
                              case measure =>
                                have e2 := cell_of_row _ _ 1 _ _ _ HRF.out.2.2.1
                                have e1 := cell_of_row _ _ 1 _ _ _ HSR.out.2.2.1
                                simp only [List.getElem?_toArray, List.getElem?_cons_succ, List.getElem?_cons_zero] at e1 e2
                                rw [e1, e2]
                                simp only [Option.getD_some, lenOfV]
                                have := HML1.out
                                omega
                    · have e1 : (yq == (GJ.length : Int)) = false := by rw [beq_eq_false_iff_ne]; exact hs
                      have HDN : Hid (Drain got.length held j) := ⟨hjl, HDR.out, fun h => by rw [HYP.out]; have := HGLN.out; simp only; omega⟩
                      clear hs
                      go_wp2_with fail
                      refine wp_region_noPanic ?_
                      refine wp_region_held_drew (S := fun u => Below wr.heap.size wr u) (by kernel_rfl) (Below.refl _ _).drew (fun hS0 => ?_)
                      have HS0 := Lib.hid hS0
                      clear hS0
                      refine take_val 0 (.pointer (some ⟨ob, 1, none⟩)) rfl (by kernel_rfl) (by kernel_rfl) (by kernel_rfl) (fun _ _ _ _ h => h) (by rfl) rfl (fun wz hS => by go_simp) HS0.out ?_
                      try simp only [List.set_cons_zero, List.set_cons_succ]
                      refine take_val 1 (.slice (some ⟨g, off, none⟩) M.length d2) rfl (by kernel_rfl) (by kernel_rfl) (by kernel_rfl) (fun _ _ _ _ h => h) (by rfl) rfl (fun wz hS => by have hz := cell_of_row _ _ 1 _ _ _ ((hS.block _ (lt_of_block HSR.out.2.2.1)).trans HSR.out.2.2.1); simp only [List.getElem?_toArray, List.getElem?_cons_zero, List.getElem?_cons_succ] at hz; go_simp) HS0.out ?_
                      try simp only [List.set_cons_zero, List.set_cons_succ]
                      refine take_val 2 (.int .i64 (M.length : Int)) rfl (by kernel_rfl) (by kernel_rfl) (by kernel_rfl) (fun _ _ _ _ h => h) (by rfl) rfl (fun wz hS => by go_simp) HS0.out ?_
                      try simp only [List.set_cons_zero, List.set_cons_succ]
                      refine take_val 3 (.bool true) rfl (by kernel_rfl) (by kernel_rfl) (by kernel_rfl) (fun _ _ _ _ h => h) (by rfl) rfl (fun wz hS => by go_simp) HS0.out ?_
                      try simp only [List.set_cons_zero, List.set_cons_succ]
                      refine take_val 4 (.bool true) rfl (by kernel_rfl) (by kernel_rfl) (by kernel_rfl) (fun _ _ _ _ h => h) (by rfl) rfl (fun wz hS => by go_simp) HS0.out ?_
                      try simp only [List.set_cons_zero, List.set_cons_succ]
                      refine take_val 5 (.pointer (some ⟨ob, 1, none⟩)) rfl (by kernel_rfl) (by kernel_rfl) (by kernel_rfl) (fun _ _ _ _ h => h) (by rfl) rfl (fun wz hS => by go_simp) HS0.out ?_
                      try simp only [List.set_cons_zero, List.set_cons_succ]
                      refine take_val 6 (.slice (some ⟨g, off, none⟩) M.length d2) rfl (by kernel_rfl) (by kernel_rfl) (by kernel_rfl) (fun _ _ _ _ h => h) (by rfl) rfl (fun wz hS => by have hz := cell_of_row _ _ 1 _ _ _ ((hS.block _ (lt_of_block HSR.out.2.2.1)).trans HSR.out.2.2.1); simp only [List.getElem?_toArray, List.getElem?_cons_zero, List.getElem?_cons_succ] at hz; go_simp) HS0.out ?_
                      try simp only [List.set_cons_zero, List.set_cons_succ]
                      refine take_val 7 (.pointer (some ⟨g, off, none⟩)) rfl (by kernel_rfl) (by kernel_rfl) (by kernel_rfl) (fun _ _ _ _ h => h) (by rfl) rfl (fun wz hS => by go_simp) HS0.out ?_
                      try simp only [List.set_cons_zero, List.set_cons_succ]
                      refine take_val 8 (.pointer (some ⟨g, off + 1, none⟩)) rfl (by kernel_rfl) (by kernel_rfl) (by kernel_rfl) (fun _ _ _ _ h => h) (by rfl) rfl (fun wz hS => by go_simp) HS0.out ?_
                      try simp only [List.set_cons_zero, List.set_cons_succ]
                      refine take_val 9 (.int .i64 yq) rfl (by kernel_rfl) (by kernel_rfl) (by kernel_rfl) (fun _ _ _ _ h => h) (by rfl) rfl (fun wz hS => by have hz := (hS.cell (p := ⟨g, off + 1, none⟩) HGL.out).trans HY1.out; go_simp) HS0.out ?_
                      try simp only [List.set_cons_zero, List.set_cons_succ]
                      refine take_val 10 (.pointer (some ⟨ob, 0, none⟩)) rfl (by kernel_rfl) (by kernel_rfl) (by kernel_rfl) (fun _ _ _ _ h => h) (by rfl) rfl (fun wz hS => by go_simp) HS0.out ?_
                      try simp only [List.set_cons_zero, List.set_cons_succ]
                      refine take_val 11 (.slice b1 GJ.length d1) rfl (by kernel_rfl) (by kernel_rfl) (by kernel_rfl) (fun _ _ _ _ h => h) (by rfl) rfl (fun wz hS => by have hz := cell_of_row _ _ 0 _ _ _ ((hS.block _ (lt_of_block HSR.out.2.2.1)).trans HSR.out.2.2.1); simp only [List.getElem?_toArray, List.getElem?_cons_zero, List.getElem?_cons_succ] at hz; go_simp) HS0.out ?_
                      try simp only [List.set_cons_zero, List.set_cons_succ]
                      refine take_val 12 (.int .i64 (GJ.length : Int)) rfl (by kernel_rfl) (by kernel_rfl) (by kernel_rfl) (fun _ _ _ _ h => h) (by rfl) rfl (fun wz hS => by go_simp) HS0.out ?_
                      try simp only [List.set_cons_zero, List.set_cons_succ]
                      refine take_val 13 (.bool false) rfl (by kernel_rfl) (by kernel_rfl) (by kernel_rfl) (fun _ _ _ _ h => h) (by rfl) rfl (fun wz hS => by go_simp) HS0.out ?_
                      try simp only [List.set_cons_zero, List.set_cons_succ]
                      refine take_val 14 (.bool false) rfl (by kernel_rfl) (by kernel_rfl) (by kernel_rfl) (fun _ _ _ _ h => h) (by rfl) rfl (fun wz hS => by go_simp) HS0.out ?_
                      try simp only [List.set_cons_zero, List.set_cons_succ]
                      refine wpAnyH_done (by kernel_rfl) ?_ _
                      refine NoPanic.normal ?_
                      have HRD := Lib.hid (HSR.out.below HS0.out)
                      have HBD := Lib.hid (Below.step HBW.out HS0.out)
                      have HPD := Lib.hid ((HS0.out.block _ (lt_of_block HPW.out)).trans HPW.out)
                      have HZD := Lib.hid ((HS0.out.block _ (lt_of_block HZW.out)).trans HZW.out)
                      clear HS0
                      generalize wr.drew = wd at *
                      have x0 := cell_of_row _ _ 0 _ _ _ HRD.out.2.2.1
                      have x1 := cell_of_row _ _ 1 _ _ _ HRD.out.2.2.1
                      simp only [List.getElem?_toArray, List.getElem?_cons_succ, List.getElem?_cons_zero] at x0 x1
                      go_wp2_with fail
                      refine (HCK2.out (some ⟨g, off, none⟩) d2 M wd HRD.out.2.1.1 (by omega)).mono ?_
                      rintro e wc ⟨hbc, a4, c4, rfl, hown4⟩
                      have HRC := Lib.hid (HRD.out.below hbc)
                      have HBC := Lib.hid (Below.step HBD.out hbc)
                      have HPC := Lib.hid ((hbc.block _ (lt_of_block HPD.out)).trans HPD.out)
                      have HZC := Lib.hid ((hbc.block _ (lt_of_block HZD.out)).trans HZD.out)
                      have hw1d : w1.heap.size ≤ wd.heap.size := by have := HRD.out.2.2.2; have := lt_of_block HRD.out.2.2.1; omega
                      have HRS := Lib.hid (HRC.out.row (b2 := a4) (M := M) (d2 := c4) ⟨sat_own1 pkC_length hown4, pb_own (own_mono hown4 hw1d), own_capK hown4⟩)
                      have HBS := Lib.hid (HBC.out.setCell (p := ⟨ob, 1, none⟩) (by have := HRC.out.2.2.2; have := HSZ1.out; show _ ≤ ob; omega) (.slice a4 M.length c4))
                      have HPS2 := Lib.hid ((Below.heap_setCell wc ⟨ob, 1, none⟩ (.slice a4 M.length c4) (w.heap.size + 1) (by have := HRC.out.2.2.2; have := HSZ1.out; show _ ≠ ob; omega)).trans HPC.out)
                      have HZS2 := Lib.hid ((Below.heap_setCell wc ⟨ob, 1, none⟩ (.slice a4 M.length c4) (w.heap.size + 1 + 1) (by have := HRC.out.2.2.2; have := HSZ1.out; show _ ≠ ob; omega)).trans HZC.out)
                      have NB4 : Hid (NB w.heap.size a4) := (nb_own hown4).mono (by have := HSZ1.out; omega)
                      have y1 := cell_of_row _ _ 1 _ _ _ HRC.out.2.2.1
                      have yf := frozen_of_row _ _ 1 _ _ HRC.out.2.2.1
                      simp only [List.getElem?_toArray, List.getElem?_cons_succ, List.getElem?_cons_zero] at y1
                      clear x0 x1 hbc hown4 hw1d
                      go_wp2_with fail
                      clear y1 yf
                      generalize wc.setCell ⟨ob, 1, none⟩ (.slice a4 M.length c4) = ws at *
                      have HNZ : Hid (ob ≠ w.heap.size + 1 + 1) := by have := HRS.out.2.2.2; have := HSZ1.out; show _ ≠ _; omega
                      have hic15 : (Try.prog.info? 28).map (·.size) = some ([.slice b1 GJ.length d1, .slice a4 M.length c4] : List Value).length := HI.out
                      have hu15 := Try.underlying28
                      refine wp_region_noPanic ?_
                      refine wp_region_held_drew (S := fun u => Below w.heap.size w u ∧ (ws.heap.size ≤ u.heap.size ∧ ∀ k, k < ws.heap.size → k ≠ w.heap.size + 1 + 1 → u.heap[k]? = ws.heap[k]?) ∧ RowZ 28 w.heap.size (w.heap.size + 1 + 1) 2 u) (by kernel_rfl) ⟨HBS.out.drew, ⟨Nat.le_refl _, fun _ _ _ => rfl⟩, ⟨by omega, _, HZS2.out, rfl⟩⟩ (fun hS0 => ?_)
                      have HS0 := Lib.hid hS0
                      clear hS0
                      refine take_row 0 (cs := [.slice b1 GJ.length d1, .slice a4 M.length c4]) rfl (by kernel_rfl) (by kernel_rfl) (by kernel_rfl) (fun _ _ _ _ h => h) (by rfl) rfl rfl rfl (fun _ hS => row_rangeG ((hS.2.1.2 ob (lt_of_block HRS.out.2.2.1) HNZ.out).trans HRS.out.2.2.1)) hu15 rfl hic15 HS0.out ?_
                      try simp only [List.set_cons_zero, List.set_cons_succ]
                      refine take_val 1 (.pointer (some ⟨w.heap.size + 1, 1, none⟩)) rfl (by kernel_rfl) (by kernel_rfl) (by kernel_rfl) (fun _ _ _ _ h => h) (by rfl) rfl (fun wz hS => by go_simp) HS0.out ?_
                      try simp only [List.set_cons_zero, List.set_cons_succ]
                      refine take_val 2 (.int .i64 q) rfl (by kernel_rfl) (by kernel_rfl) (by kernel_rfl) (fun _ _ _ _ h => h) (by rfl) rfl (fun wz hS => by have hz := cell_of_row _ _ 1 _ _ _ ((hS.2.1.2 (w.heap.size + 1) (lt_of_block HPS2.out) (by omega)).trans HPS2.out); simp only [List.getElem?_toArray, List.getElem?_cons_zero, List.getElem?_cons_succ] at hz; go_simp) HS0.out ?_
                      try simp only [List.set_cons_zero, List.set_cons_succ]
                      refine take_val 3 (.agg #[.int .i64 2, .int .i64 q, .string ⟨#[]⟩]) rfl (by kernel_rfl) (by kernel_rfl) (by kernel_rfl) (fun _ _ _ _ h => h) (by rfl) rfl (fun wz hS => by go_simp) HS0.out ?_
                      try simp only [List.set_cons_zero, List.set_cons_succ]
                      refine wpAnyH_obls (γ := Nat) [4, 5] (fun kx g w' => (kx = 4 → w'.heap[g]? = some (.cells #[.int .i64 2, .int .i64 q, .string ⟨#[]⟩] 30 (0, 0))) ∧ (kx = 5 → w'.heap[w.heap.size + 1 + 1]? = some (.cells #[.slice b1 GJ.length d1, .slice a4 M.length c4] 28 (0, 0)))) [105, 5, 6] (fun g => [.slice (some ⟨g, 0, none⟩) 1 1, .slice (some ⟨g, 0, none⟩) 1 1, .int .i64 0]) [4, 5, 6, 7] 0 (by kernel_rfl) (by kernel_rfl) (by kernel_rfl) (by kernel_rfl) (by kernel_rfl) (by kernel_rfl) (by decide +kernel) (fun _ _ _ _ h => h) HS0.out ?_ ?_
                      · skip
                        refine .mk _ 105 [5] (by kernel_rfl) rfl rfl (fun g => by kernel_rfl) (fun g u hS hB => ⟨u.heap.size, .slice (some ⟨u.heap.size, 0, none⟩) 1 1, u.alloc (.cells #[.int .i64 2, .int .i64 q, .string ⟨#[]⟩] 30), by simp only [setAll, List.zip_cons_cons, List.zip_nil_right, List.foldl_cons, List.foldl_nil, List.set_cons_zero, List.set_cons_succ]; go_simp, by rfl, ⟨hS.1.alloc hS.1.size _, ⟨Nat.le_trans hS.2.1.1 (by simp), fun k hk hne => (Below.heap_alloc u _ _ (Nat.lt_of_lt_of_le hk hS.2.1.1)).trans (hS.2.1.2 k hk hne)⟩, hS.2.2.below ((Below.refl _ _).alloc (Nat.le_refl _) _)⟩, ⟨fun _ => heap_alloc_new u _, fun e => absurd e (by decide)⟩, fun k hk hne hna hb => ⟨fun e => absurd e hne, fun e => (fun h => (Below.heap_alloc u _ _ (lt_of_block h)).trans h) (hb.2 e)⟩, fun t ht => (show Differ [105, 5] _ _ by simp only [List.zip_cons_cons, List.zip_nil_right]; repeat (first | exact .nil | refine .same ?_ | refine .diff (by decide) ?_)).get _ _ rfl (fun _ _ => rfl) t ht⟩) ?_
                        refine .eff _ rfl rfl (fun g => by kernel_rfl) (fun g u hS hB => by simp only [setAll, List.zip_cons_cons, List.zip_nil_right, List.foldl_cons, List.foldl_nil, List.set_cons_zero, List.set_cons_succ]; exact (st_row (B := w.heap.size) (w0 := w) (b := w.heap.size + 1 + 1) (n := 2) (full := #[.slice b1 GJ.length d1, .slice a4 M.length c4]) rfl rfl rfl hS.1 hS.2.2 rfl HI.out (recv_one _ _ _ _ _ _) rfl) |> Oper.wp_mono (fun a' w' h => ⟨h.1, ⟨h.2.1, ⟨by have h1 := hS.2.1.1; exact Nat.le_trans h1 (st_size h.2.2.2 h.2.2.1), fun k hk hne => (h.2.2.2 k hne).trans (hS.2.1.2 k hk hne)⟩, ⟨hS.2.2.1, _, h.2.2.1, rfl⟩⟩, ⟨fun e => absurd e (by decide), fun _ => h.2.2.1⟩, fun k hk hne hb => ⟨fun e => (h.2.2.2 g (rowz_ne (hb.1 e) hS.2.2 (by decide))).trans (hb.1 e), fun e => absurd e hne⟩⟩)) ?_
                        refine .val _ 5 (fun g => .slice (some ⟨g, 0, none⟩) 1 1) rfl (by decide) rfl (fun g => by kernel_rfl) (fun g u hS hB => by simp only [setAll, List.zip_cons_cons, List.zip_nil_right, List.foldl_cons, List.foldl_nil, List.set_cons_zero, List.set_cons_succ]; go_simp) (fun g => by rfl) ?_
                        refine .val _ 6 (fun g => .int .i64 0) rfl (by decide) rfl (fun g => by kernel_rfl) (fun g u hS hB => by simp only [setAll, List.zip_cons_cons, List.zip_nil_right, List.foldl_cons, List.foldl_nil, List.set_cons_zero, List.set_cons_succ]; go_simp) (fun g => by rfl) ?_
                        exact .nil
                      intro g9 uf hS hB
                      refine NoPanic.normal ?_
                      simp only [setAll, List.zip_cons_cons, List.zip_nil_right, List.foldl_cons, List.foldl_nil, List.set_cons_zero, List.set_cons_succ]
                      have HF4 := Lib.hid ((hB 4 (by decide)).1 rfl)
                      have HF5 := Lib.hid ((hB 5 (by decide)).2 rfl)
                      have HSF := Lib.hid hS
                      clear hS hB HS0
                      go_wp2_with fail
                      have hrow : uf.heap[w.heap.size + 1 + 1]? = some (.cells #[.slice b1 GJ.length d1, .slice a4 M.length c4] 28 (0, 0)) := HF5.out
                      refine bodyPost_ret (results_row_tmp2 (p := 4) (q := 5) (r := 6) (ty := 28) rfl _ _ (w.heap.size + 1 + 1) 28 #[.slice b1 GJ.length d1, .slice a4 M.length c4] (0, 0) _ rfl hrow Try.underlying28 rfl HI.out) rfl ?_
                      have hkk : w.heap.size + 1 + 1 < w1.heap.size := by have := HSZ1.out; omega
                      have hown1 := own_keep (w' := uf) HRS.out.1 fun g cs hg hB => HSF.out.2.1.2 g (lt_of_block hg) (by omega)
                      have hs2 := HRS.out.2.1.1.keep HSF.out.2.1.1 fun ad e => by obtain ⟨hh, cs, hg⟩ := HRS.out.2.1.2.1 ad e; exact HSF.out.2.1.2 _ (lt_of_block hg) (by omega)
                      refine ⟨HSF.out.1, .inr ⟨HOK.out, GJ, M, [(2, q, ⟨#[]⟩)], b1, d1, a4, c4, some ⟨g9, 0, none⟩, 1, rfl, sat_own1 stC_length hown1, hs2, sat_one HF4.out, (nb_own hown1).mono (by omega), NB4.out, .inr ⟨rfl, hq0, hq8.1, hq8.2, rfl, held, j, HLP.out, HDN.out, HGJ.out.symm, HM.out.symm⟩⟩⟩
                  · have m1 : ¬ ((M.length : Int) > 0) := by omega
                    have HDN : Hid (Drain got.length held j) := ⟨hjl, HDR.out, fun h => by have := HMLN.out; omega⟩
                    clear q0 q1
                    go_wp2_with fail
                    refine wp_region_noPanic ?_
                    refine wp_region_held_drew (S := fun u => Below wr.heap.size wr u) (by kernel_rfl) (Below.refl _ _).drew (fun hS0 => ?_)
                    have HS0 := Lib.hid hS0
                    clear hS0
                    refine take_val 0 (.pointer (some ⟨ob, 1, none⟩)) rfl (by kernel_rfl) (by kernel_rfl) (by kernel_rfl) (fun _ _ _ _ h => h) (by rfl) rfl (fun wz hS => by go_simp) HS0.out ?_
                    try simp only [List.set_cons_zero, List.set_cons_succ]
                    refine take_val 1 (.slice b2 M.length d2) rfl (by kernel_rfl) (by kernel_rfl) (by kernel_rfl) (fun _ _ _ _ h => h) (by rfl) rfl (fun wz hS => by have hz := cell_of_row _ _ 1 _ _ _ ((hS.block _ (lt_of_block HSR.out.2.2.1)).trans HSR.out.2.2.1); simp only [List.getElem?_toArray, List.getElem?_cons_zero, List.getElem?_cons_succ] at hz; go_simp) HS0.out ?_
                    try simp only [List.set_cons_zero, List.set_cons_succ]
                    refine take_val 2 (.int .i64 (M.length : Int)) rfl (by kernel_rfl) (by kernel_rfl) (by kernel_rfl) (fun _ _ _ _ h => h) (by rfl) rfl (fun wz hS => by go_simp) HS0.out ?_
                    try simp only [List.set_cons_zero, List.set_cons_succ]
                    refine take_val 3 (.bool false) rfl (by kernel_rfl) (by kernel_rfl) (by kernel_rfl) (fun _ _ _ _ h => h) (by rfl) rfl (fun wz hS => by go_simp) HS0.out ?_
                    try simp only [List.set_cons_zero, List.set_cons_succ]
                    refine take_val 4 (.bool false) rfl (by kernel_rfl) (by kernel_rfl) (by kernel_rfl) (fun _ _ _ _ h => h) (by rfl) rfl (fun wz hS => by go_simp) HS0.out ?_
                    try simp only [List.set_cons_zero, List.set_cons_succ]
                    refine take_not 5 rfl (by kernel_rfl) (by kernel_rfl) (by kernel_rfl) (fun _ _ _ _ h => h) (by rfl) rfl HS0.out ?_
                    try simp only [List.set_cons_zero, List.set_cons_succ]
                    refine take_not 6 rfl (by kernel_rfl) (by kernel_rfl) (by kernel_rfl) (fun _ _ _ _ h => h) (by rfl) rfl HS0.out ?_
                    try simp only [List.set_cons_zero, List.set_cons_succ]
                    refine take_not 7 rfl (by kernel_rfl) (by kernel_rfl) (by kernel_rfl) (fun _ _ _ _ h => h) (by rfl) rfl HS0.out ?_
                    try simp only [List.set_cons_zero, List.set_cons_succ]
                    refine take_not 8 rfl (by kernel_rfl) (by kernel_rfl) (by kernel_rfl) (fun _ _ _ _ h => h) (by rfl) rfl HS0.out ?_
                    try simp only [List.set_cons_zero, List.set_cons_succ]
                    refine take_not 9 rfl (by kernel_rfl) (by kernel_rfl) (by kernel_rfl) (fun _ _ _ _ h => h) (by rfl) rfl HS0.out ?_
                    try simp only [List.set_cons_zero, List.set_cons_succ]
                    refine take_not 10 rfl (by kernel_rfl) (by kernel_rfl) (by kernel_rfl) (fun _ _ _ _ h => h) (by rfl) rfl HS0.out ?_
                    try simp only [List.set_cons_zero, List.set_cons_succ]
                    refine take_not 11 rfl (by kernel_rfl) (by kernel_rfl) (by kernel_rfl) (fun _ _ _ _ h => h) (by rfl) rfl HS0.out ?_
                    try simp only [List.set_cons_zero, List.set_cons_succ]
                    refine take_not 12 rfl (by kernel_rfl) (by kernel_rfl) (by kernel_rfl) (fun _ _ _ _ h => h) (by rfl) rfl HS0.out ?_
                    try simp only [List.set_cons_zero, List.set_cons_succ]
                    refine take_not 13 rfl (by kernel_rfl) (by kernel_rfl) (by kernel_rfl) (fun _ _ _ _ h => h) (by rfl) rfl HS0.out ?_
                    try simp only [List.set_cons_zero, List.set_cons_succ]
                    refine take_val 14 (.bool false) rfl (by kernel_rfl) (by kernel_rfl) (by kernel_rfl) (fun _ _ _ _ h => h) (by rfl) rfl (fun wz hS => by go_simp) HS0.out ?_
                    try simp only [List.set_cons_zero, List.set_cons_succ]
                    refine wpAnyH_done (by kernel_rfl) ?_ _
                    refine NoPanic.normal ?_
                    have HRD := Lib.hid (HSR.out.below HS0.out)
                    have HBD := Lib.hid (Below.step HBW.out HS0.out)
                    have HPD := Lib.hid ((HS0.out.block _ (lt_of_block HPW.out)).trans HPW.out)
                    have HZD := Lib.hid ((HS0.out.block _ (lt_of_block HZW.out)).trans HZW.out)
                    clear HS0
                    generalize wr.drew = wd at *
                    have x0 := cell_of_row _ _ 0 _ _ _ HRD.out.2.2.1
                    have x1 := cell_of_row _ _ 1 _ _ _ HRD.out.2.2.1
                    simp only [List.getElem?_toArray, List.getElem?_cons_succ, List.getElem?_cons_zero] at x0 x1
                    go_wp2_with fail
                    refine (HCK2.out b2 d2 M wd HRD.out.2.1.1 (by omega)).mono ?_
                    rintro e wc ⟨hbc, a4, c4, rfl, hown4⟩
                    have HRC := Lib.hid (HRD.out.below hbc)
                    have HBC := Lib.hid (Below.step HBD.out hbc)
                    have HPC := Lib.hid ((hbc.block _ (lt_of_block HPD.out)).trans HPD.out)
                    have HZC := Lib.hid ((hbc.block _ (lt_of_block HZD.out)).trans HZD.out)
                    have hw1d : w1.heap.size ≤ wd.heap.size := by have := HRD.out.2.2.2; have := lt_of_block HRD.out.2.2.1; omega
                    have HRS := Lib.hid (HRC.out.row (b2 := a4) (M := M) (d2 := c4) ⟨sat_own1 pkC_length hown4, pb_own (own_mono hown4 hw1d), own_capK hown4⟩)
                    have HBS := Lib.hid (HBC.out.setCell (p := ⟨ob, 1, none⟩) (by have := HRC.out.2.2.2; have := HSZ1.out; show _ ≤ ob; omega) (.slice a4 M.length c4))
                    have HPS2 := Lib.hid ((Below.heap_setCell wc ⟨ob, 1, none⟩ (.slice a4 M.length c4) (w.heap.size + 1) (by have := HRC.out.2.2.2; have := HSZ1.out; show _ ≠ ob; omega)).trans HPC.out)
                    have HZS2 := Lib.hid ((Below.heap_setCell wc ⟨ob, 1, none⟩ (.slice a4 M.length c4) (w.heap.size + 1 + 1) (by have := HRC.out.2.2.2; have := HSZ1.out; show _ ≠ ob; omega)).trans HZC.out)
                    have NB4 : Hid (NB w.heap.size a4) := (nb_own hown4).mono (by have := HSZ1.out; omega)
                    have y1 := cell_of_row _ _ 1 _ _ _ HRC.out.2.2.1
                    have yf := frozen_of_row _ _ 1 _ _ HRC.out.2.2.1
                    simp only [List.getElem?_toArray, List.getElem?_cons_succ, List.getElem?_cons_zero] at y1
                    clear x0 x1 hbc hown4 hw1d
                    go_wp2_with fail
                    clear y1 yf
                    generalize wc.setCell ⟨ob, 1, none⟩ (.slice a4 M.length c4) = ws at *
                    have HNZ : Hid (ob ≠ w.heap.size + 1 + 1) := by have := HRS.out.2.2.2; have := HSZ1.out; show _ ≠ _; omega
                    have hic15 : (Try.prog.info? 28).map (·.size) = some ([.slice b1 GJ.length d1, .slice a4 M.length c4] : List Value).length := HI.out
                    have hu15 := Try.underlying28
                    refine wp_region_noPanic ?_
                    refine wp_region_held_drew (S := fun u => Below w.heap.size w u ∧ (ws.heap.size ≤ u.heap.size ∧ ∀ k, k < ws.heap.size → k ≠ w.heap.size + 1 + 1 → u.heap[k]? = ws.heap[k]?) ∧ RowZ 28 w.heap.size (w.heap.size + 1 + 1) 2 u) (by kernel_rfl) ⟨HBS.out.drew, ⟨Nat.le_refl _, fun _ _ _ => rfl⟩, ⟨by omega, _, HZS2.out, rfl⟩⟩ (fun hS0 => ?_)
                    have HS0 := Lib.hid hS0
                    clear hS0
                    refine take_row 0 (cs := [.slice b1 GJ.length d1, .slice a4 M.length c4]) rfl (by kernel_rfl) (by kernel_rfl) (by kernel_rfl) (fun _ _ _ _ h => h) (by rfl) rfl rfl rfl (fun _ hS => row_rangeG ((hS.2.1.2 ob (lt_of_block HRS.out.2.2.1) HNZ.out).trans HRS.out.2.2.1)) hu15 rfl hic15 HS0.out ?_
                    try simp only [List.set_cons_zero, List.set_cons_succ]
                    refine take_val 1 (.pointer (some ⟨w.heap.size + 1, 1, none⟩)) rfl (by kernel_rfl) (by kernel_rfl) (by kernel_rfl) (fun _ _ _ _ h => h) (by rfl) rfl (fun wz hS => by go_simp) HS0.out ?_
                    try simp only [List.set_cons_zero, List.set_cons_succ]
                    refine take_val 2 (.int .i64 q) rfl (by kernel_rfl) (by kernel_rfl) (by kernel_rfl) (fun _ _ _ _ h => h) (by rfl) rfl (fun wz hS => by have hz := cell_of_row _ _ 1 _ _ _ ((hS.2.1.2 (w.heap.size + 1) (lt_of_block HPS2.out) (by omega)).trans HPS2.out); simp only [List.getElem?_toArray, List.getElem?_cons_zero, List.getElem?_cons_succ] at hz; go_simp) HS0.out ?_
                    try simp only [List.set_cons_zero, List.set_cons_succ]
                    refine take_val 3 (.agg #[.int .i64 2, .int .i64 q, .string ⟨#[]⟩]) rfl (by kernel_rfl) (by kernel_rfl) (by kernel_rfl) (fun _ _ _ _ h => h) (by rfl) rfl (fun wz hS => by go_simp) HS0.out ?_
                    try simp only [List.set_cons_zero, List.set_cons_succ]
                    refine wpAnyH_obls (γ := Nat) [4, 5] (fun kx g w' => (kx = 4 → w'.heap[g]? = some (.cells #[.int .i64 2, .int .i64 q, .string ⟨#[]⟩] 30 (0, 0))) ∧ (kx = 5 → w'.heap[w.heap.size + 1 + 1]? = some (.cells #[.slice b1 GJ.length d1, .slice a4 M.length c4] 28 (0, 0)))) [105, 5, 6] (fun g => [.slice (some ⟨g, 0, none⟩) 1 1, .slice (some ⟨g, 0, none⟩) 1 1, .int .i64 0]) [4, 5, 6, 7] 0 (by kernel_rfl) (by kernel_rfl) (by kernel_rfl) (by kernel_rfl) (by kernel_rfl) (by kernel_rfl) (by decide +kernel) (fun _ _ _ _ h => h) HS0.out ?_ ?_
                    · skip
                      refine .mk _ 105 [5] (by kernel_rfl) rfl rfl (fun g => by kernel_rfl) (fun g u hS hB => ⟨u.heap.size, .slice (some ⟨u.heap.size, 0, none⟩) 1 1, u.alloc (.cells #[.int .i64 2, .int .i64 q, .string ⟨#[]⟩] 30), by simp only [setAll, List.zip_cons_cons, List.zip_nil_right, List.foldl_cons, List.foldl_nil, List.set_cons_zero, List.set_cons_succ]; go_simp, by rfl, ⟨hS.1.alloc hS.1.size _, ⟨Nat.le_trans hS.2.1.1 (by simp), fun k hk hne => (Below.heap_alloc u _ _ (Nat.lt_of_lt_of_le hk hS.2.1.1)).trans (hS.2.1.2 k hk hne)⟩, hS.2.2.below ((Below.refl _ _).alloc (Nat.le_refl _) _)⟩, ⟨fun _ => heap_alloc_new u _, fun e => absurd e (by decide)⟩, fun k hk hne hna hb => ⟨fun e => absurd e hne, fun e => (fun h => (Below.heap_alloc u _ _ (lt_of_block h)).trans h) (hb.2 e)⟩, fun t ht => (show Differ [105, 5] _ _ by simp only [List.zip_cons_cons, List.zip_nil_right]; repeat (first | exact .nil | refine .same ?_ | refine .diff (by decide) ?_)).get _ _ rfl (fun _ _ => rfl) t ht⟩) ?_
                      refine .eff _ rfl rfl (fun g => by kernel_rfl) (fun g u hS hB => by simp only [setAll, List.zip_cons_cons, List.zip_nil_right, List.foldl_cons, List.foldl_nil, List.set_cons_zero, List.set_cons_succ]; exact (st_row (B := w.heap.size) (w0 := w) (b := w.heap.size + 1 + 1) (n := 2) (full := #[.slice b1 GJ.length d1, .slice a4 M.length c4]) rfl rfl rfl hS.1 hS.2.2 rfl HI.out (recv_one _ _ _ _ _ _) rfl) |> Oper.wp_mono (fun a' w' h => ⟨h.1, ⟨h.2.1, ⟨by have h1 := hS.2.1.1; exact Nat.le_trans h1 (st_size h.2.2.2 h.2.2.1), fun k hk hne => (h.2.2.2 k hne).trans (hS.2.1.2 k hk hne)⟩, ⟨hS.2.2.1, _, h.2.2.1, rfl⟩⟩, ⟨fun e => absurd e (by decide), fun _ => h.2.2.1⟩, fun k hk hne hb => ⟨fun e => (h.2.2.2 g (rowz_ne (hb.1 e) hS.2.2 (by decide))).trans (hb.1 e), fun e => absurd e hne⟩⟩)) ?_
                      refine .val _ 5 (fun g => .slice (some ⟨g, 0, none⟩) 1 1) rfl (by decide) rfl (fun g => by kernel_rfl) (fun g u hS hB => by simp only [setAll, List.zip_cons_cons, List.zip_nil_right, List.foldl_cons, List.foldl_nil, List.set_cons_zero, List.set_cons_succ]; go_simp) (fun g => by rfl) ?_
                      refine .val _ 6 (fun g => .int .i64 0) rfl (by decide) rfl (fun g => by kernel_rfl) (fun g u hS hB => by simp only [setAll, List.zip_cons_cons, List.zip_nil_right, List.foldl_cons, List.foldl_nil, List.set_cons_zero, List.set_cons_succ]; go_simp) (fun g => by rfl) ?_
                      exact .nil
                    intro g9 uf hS hB
                    refine NoPanic.normal ?_
                    simp only [setAll, List.zip_cons_cons, List.zip_nil_right, List.foldl_cons, List.foldl_nil, List.set_cons_zero, List.set_cons_succ]
                    have HF4 := Lib.hid ((hB 4 (by decide)).1 rfl)
                    have HF5 := Lib.hid ((hB 5 (by decide)).2 rfl)
                    have HSF := Lib.hid hS
                    clear hS hB HS0
                    go_wp2_with fail
                    have hrow : uf.heap[w.heap.size + 1 + 1]? = some (.cells #[.slice b1 GJ.length d1, .slice a4 M.length c4] 28 (0, 0)) := HF5.out
                    refine bodyPost_ret (results_row_tmp2 (p := 4) (q := 5) (r := 6) (ty := 28) rfl _ _ (w.heap.size + 1 + 1) 28 #[.slice b1 GJ.length d1, .slice a4 M.length c4] (0, 0) _ rfl hrow Try.underlying28 rfl HI.out) rfl ?_
                    have hkk : w.heap.size + 1 + 1 < w1.heap.size := by have := HSZ1.out; omega
                    have hown1 := own_keep (w' := uf) HRS.out.1 fun g cs hg hB => HSF.out.2.1.2 g (lt_of_block hg) (by omega)
                    have hs2 := HRS.out.2.1.1.keep HSF.out.2.1.1 fun ad e => by obtain ⟨hh, cs, hg⟩ := HRS.out.2.1.2.1 ad e; exact HSF.out.2.1.2 _ (lt_of_block hg) (by omega)
                    refine ⟨HSF.out.1, .inr ⟨HOK.out, GJ, M, [(2, q, ⟨#[]⟩)], b1, d1, a4, c4, some ⟨g9, 0, none⟩, 1, rfl, sat_own1 stC_length hown1, hs2, sat_one HF4.out, (nb_own hown1).mono (by omega), NB4.out, .inr ⟨rfl, hq0, hq8.1, hq8.2, rfl, held, j, HLP.out, HDN.out, HGJ.out.symm, HM.out.symm⟩⟩⟩
              | false =>
                go_wp2_with fail
                clear p0 p1 p2 q0 q1 qf
                go_loopw [] (fun wr => ∃ (j : Nat) (b1 : Option Addr) (d1 : Nat) (b2 : Option Addr) (d2 : Nat), j ≤ held.length ∧ Hid (RSt w1.heap.size ob b1 d1 b2 d2 (got ++ (held.take j).map (fun q => q.2.2)) (held.drop j) wr) ∧ Hid (Below w.heap.size w wr) ∧ Hid (wr.heap[w.heap.size + 1]? = some (.cells #[.int .i64 1, .int .i64 q, .string s] 30 (0, 0))) ∧ Hid (wr.heap[w.heap.size + 1 + 1]? = some (.cells #[.slice none 0 0, .slice none 0 0] 28 (0, 0))) ∧ Hid (∀ i (h : i < held.length), i < j → held[i].2.1 = (got.length : Int) + i)) (fun wr => lenOfV ((wr.cell? ⟨ob, 1, none⟩).getD undef))
                case atStart => exact ⟨0, _, _, _, _, Nat.zero_le _, Lib.hid (by simpa using HSTL.out), HBL, HPL, HZL, Lib.hid (fun i h1 h2 => by omega)⟩
                case round =>
                  obtain ⟨j, b1, d1, b2, d2, hjl, HSR, HBW, HPW, HZW, HDR⟩ := hrel
                  obtain ⟨GJ, hGJ⟩ : ∃ GJ, got ++ (held.take j).map (fun q => q.2.2) = GJ := ⟨_, rfl⟩
                  obtain ⟨M, hM⟩ : ∃ M, held.drop j = M := ⟨_, rfl⟩
                  rw [hGJ, hM] at HSR
                  have HGLN : Hid (GJ.length = got.length + j) := by
                    show _ = _
                    rw [← hGJ, List.length_append, List.length_map, List.length_take, Nat.min_eq_left hjl]
                  have HMLN : Hid (M.length = held.length - j) := by show _ = _; rw [← hM, List.length_drop]
                  have HGJ := Lib.hid hGJ
                  have HM := Lib.hid hM
                  have gj1 : GJ.length ≤ 2020 := by have := HGLN.out; omega
                  have ml1 : M.length ≤ 20 := by have := HMLN.out; omega
                  have q0 := cell_of_row _ _ 0 _ _ _ HSR.out.2.2.1
                  have q1 := cell_of_row _ _ 1 _ _ _ HSR.out.2.2.1
                  simp only [List.getElem?_toArray, List.getElem?_cons_succ, List.getElem?_cons_zero] at q0 q1
                  clear hGJ hM
                  by_cases hm0 : 0 < M.length
                  · have m1 : (M.length : Int) > 0 := by omega
                    have hjL : j < held.length := by have := HMLN.out; omega
                    obtain ⟨y, hy⟩ : ∃ y, M[0] = y := ⟨_, rfl⟩
                    obtain ⟨g, off, rfl, hgl, _, y1, y2⟩ := HSR.out.2.1.1.packet 0 hm0 y hy
                    rw [Nat.zero_mul, Nat.add_zero] at y1 y2
                    have HYP : Hid (held[j] = y) := by
                      show _ = _
                      rw [← hy]
                      have e := congrArg (fun x : List PkT => x[0]?) HM.out
                      simp only [List.getElem?_drop, Nat.add_zero] at e
                      rw [List.getElem?_eq_getElem hjL, List.getElem?_eq_getElem hm0] at e
                      exact Option.some.inj e
                    obtain ⟨yk, yq, yt⟩ := y
                    have HGL := Lib.hid hgl
                    have HY1 := Lib.hid y1
                    have HY2 := Lib.hid y2
                    clear hy hgl y1 y2 q0 q1
                    by_cases hs : yq = (GJ.length : Int)
                    · have e1 : (yq == (GJ.length : Int)) = true := by rw [beq_iff_eq]; exact hs
                      have HYL : Hid (held[j].2.1 = (got.length : Int) + j) := by show _ = _; rw [HYP.out]; have := HGLN.out; simp only; omega
                      clear hs
                      go_wp2_with fail
                      refine wp_region_noPanic ?_
                      refine wp_region_held_drew (S := fun u => Below wr.heap.size wr u) (by kernel_rfl) (Below.refl _ _).drew (fun hS0 => ?_)
                      have HS0 := Lib.hid hS0
                      clear hS0
                      refine take_val 0 (.pointer (some ⟨ob, 1, none⟩)) rfl (by kernel_rfl) (by kernel_rfl) (by kernel_rfl) (fun _ _ _ _ h => h) (by rfl) rfl (fun wz hS => by go_simp) HS0.out ?_
                      try simp only [List.set_cons_zero, List.set_cons_succ]
                      refine take_val 1 (.slice (some ⟨g, off, none⟩) M.length d2) rfl (by kernel_rfl) (by kernel_rfl) (by kernel_rfl) (fun _ _ _ _ h => h) (by rfl) rfl (fun wz hS => by have hz := cell_of_row _ _ 1 _ _ _ ((hS.block _ (lt_of_block HSR.out.2.2.1)).trans HSR.out.2.2.1); simp only [List.getElem?_toArray, List.getElem?_cons_zero, List.getElem?_cons_succ] at hz; go_simp) HS0.out ?_
                      try simp only [List.set_cons_zero, List.set_cons_succ]
                      refine take_val 2 (.int .i64 (M.length : Int)) rfl (by kernel_rfl) (by kernel_rfl) (by kernel_rfl) (fun _ _ _ _ h => h) (by rfl) rfl (fun wz hS => by go_simp) HS0.out ?_
                      try simp only [List.set_cons_zero, List.set_cons_succ]
                      refine take_val 3 (.bool true) rfl (by kernel_rfl) (by kernel_rfl) (by kernel_rfl) (fun _ _ _ _ h => h) (by rfl) rfl (fun wz hS => by go_simp) HS0.out ?_
                      try simp only [List.set_cons_zero, List.set_cons_succ]
                      refine take_val 4 (.bool true) rfl (by kernel_rfl) (by kernel_rfl) (by kernel_rfl) (fun _ _ _ _ h => h) (by rfl) rfl (fun wz hS => by go_simp) HS0.out ?_
                      try simp only [List.set_cons_zero, List.set_cons_succ]
                      refine take_val 5 (.pointer (some ⟨ob, 1, none⟩)) rfl (by kernel_rfl) (by kernel_rfl) (by kernel_rfl) (fun _ _ _ _ h => h) (by rfl) rfl (fun wz hS => by go_simp) HS0.out ?_
                      try simp only [List.set_cons_zero, List.set_cons_succ]
                      refine take_val 6 (.slice (some ⟨g, off, none⟩) M.length d2) rfl (by kernel_rfl) (by kernel_rfl) (by kernel_rfl) (fun _ _ _ _ h => h) (by rfl) rfl (fun wz hS => by have hz := cell_of_row _ _ 1 _ _ _ ((hS.block _ (lt_of_block HSR.out.2.2.1)).trans HSR.out.2.2.1); simp only [List.getElem?_toArray, List.getElem?_cons_zero, List.getElem?_cons_succ] at hz; go_simp) HS0.out ?_
                      try simp only [List.set_cons_zero, List.set_cons_succ]
                      refine take_val 7 (.pointer (some ⟨g, off, none⟩)) rfl (by kernel_rfl) (by kernel_rfl) (by kernel_rfl) (fun _ _ _ _ h => h) (by rfl) rfl (fun wz hS => by go_simp) HS0.out ?_
                      try simp only [List.set_cons_zero, List.set_cons_succ]
                      refine take_val 8 (.pointer (some ⟨g, off + 1, none⟩)) rfl (by kernel_rfl) (by kernel_rfl) (by kernel_rfl) (fun _ _ _ _ h => h) (by rfl) rfl (fun wz hS => by go_simp) HS0.out ?_
                      try simp only [List.set_cons_zero, List.set_cons_succ]
                      refine take_val 9 (.int .i64 yq) rfl (by kernel_rfl) (by kernel_rfl) (by kernel_rfl) (fun _ _ _ _ h => h) (by rfl) rfl (fun wz hS => by have hz := (hS.cell (p := ⟨g, off + 1, none⟩) HGL.out).trans HY1.out; go_simp) HS0.out ?_
                      try simp only [List.set_cons_zero, List.set_cons_succ]
                      refine take_val 10 (.pointer (some ⟨ob, 0, none⟩)) rfl (by kernel_rfl) (by kernel_rfl) (by kernel_rfl) (fun _ _ _ _ h => h) (by rfl) rfl (fun wz hS => by go_simp) HS0.out ?_
                      try simp only [List.set_cons_zero, List.set_cons_succ]
                      refine take_val 11 (.slice b1 GJ.length d1) rfl (by kernel_rfl) (by kernel_rfl) (by kernel_rfl) (fun _ _ _ _ h => h) (by rfl) rfl (fun wz hS => by have hz := cell_of_row _ _ 0 _ _ _ ((hS.block _ (lt_of_block HSR.out.2.2.1)).trans HSR.out.2.2.1); simp only [List.getElem?_toArray, List.getElem?_cons_zero, List.getElem?_cons_succ] at hz; go_simp) HS0.out ?_
                      try simp only [List.set_cons_zero, List.set_cons_succ]
                      refine take_val 12 (.int .i64 (GJ.length : Int)) rfl (by kernel_rfl) (by kernel_rfl) (by kernel_rfl) (fun _ _ _ _ h => h) (by rfl) rfl (fun wz hS => by go_simp) HS0.out ?_
                      try simp only [List.set_cons_zero, List.set_cons_succ]
                      refine take_val 13 (.bool true) rfl (by kernel_rfl) (by kernel_rfl) (by kernel_rfl) (fun _ _ _ _ h => h) (by rfl) rfl (fun wz hS => by go_simp) HS0.out ?_
                      try simp only [List.set_cons_zero, List.set_cons_succ]
                      refine take_val 14 (.bool true) rfl (by kernel_rfl) (by kernel_rfl) (by kernel_rfl) (fun _ _ _ _ h => h) (by rfl) rfl (fun wz hS => by go_simp) HS0.out ?_
                      try simp only [List.set_cons_zero, List.set_cons_succ]
                      refine wpAnyH_done (by kernel_rfl) ?_ _
                      refine NoPanic.normal ?_
                      have HRD := Lib.hid (HSR.out.below HS0.out)
                      have HBD := Lib.hid (Below.step HBW.out HS0.out)
                      have HPD := Lib.hid ((HS0.out.block _ (lt_of_block HPW.out)).trans HPW.out)
                      have HZD := Lib.hid ((HS0.out.block _ (lt_of_block HZW.out)).trans HZW.out)
                      have HY2D := Lib.hid ((HS0.out.cell (p := ⟨g, off + 2, none⟩) HGL.out).trans HY2.out)
                      clear HS0
                      generalize wr.drew = wd at *
                      go_wp2_with fail
                      refine wp_region_noPanic ?_
                      refine wp_region_held_drew (S := fun _ => True) (by kernel_rfl) trivial (fun _hS0 => ?_)
                      clear _hS0
                      have HRU := Lib.hid (HRD.out.below ((Below.refl _ _).drew))
                      have HBU1 := Lib.hid HBD.out.drew
                      have HPU := Lib.hid (show wd.drew.heap[w.heap.size + 1]? = _ from HPD.out)
                      have HZU := Lib.hid (show wd.drew.heap[w.heap.size + 1 + 1]? = _ from HZD.out)
                      have HY2U := Lib.hid (show wd.drew.cell? ⟨g, off + 2, none⟩ = _ from HY2D.out)
                      generalize wd.drew = u1 at *
                      have x0 := cell_of_row _ _ 0 _ _ _ HRU.out.2.2.1
                      have x1 := cell_of_row _ _ 1 _ _ _ HRU.out.2.2.1
                      simp only [List.getElem?_toArray, List.getElem?_cons_succ, List.getElem?_cons_zero] at x0 x1
                      have x0a := Lib.cell?_alloc_some (.cells #[.string yt] 9) x0
                      have y2 := HY2U.out
                      have D1 := Lib.hid (cells_new_at u1 u1.heap.size rfl #[.string yt] 9 (stC yt) rfl)
                      have HONE := Lib.hid (stC_one yt)
                      have D3 : Hid (GJ.length + 1 ≤ maxLen) := by show _ ≤ _; unfold maxLen; omega
                      have D4 : Hid ((GJ.length + 1) * 16 ≤ 140737488355328) := by show _ ≤ _; omega
                      have D5 : Hid (w1.heap.size ≤ (u1.alloc (.cells #[.string yt] 9)).heap.size) := by show _ ≤ _; have := HRU.out.2.2.2; have := lt_of_block HRU.out.2.2.1; simp; omega
                      refine take_val 0 (.pointer (some ⟨ob, 0, none⟩)) rfl (by kernel_rfl) (by kernel_rfl) (by kernel_rfl) (fun _ _ _ _ h => h) (by rfl) rfl (fun wz hS => by go_simp) trivial ?_
                      try simp only [List.set_cons_zero, List.set_cons_succ]
                      refine take_val 2 (.pointer (some ⟨ob, 1, none⟩)) rfl (by kernel_rfl) (by kernel_rfl) (by kernel_rfl) (fun _ _ _ _ h => h) (by rfl) rfl (fun wz hS => by go_simp) trivial ?_
                      try simp only [List.set_cons_zero, List.set_cons_succ]
                      refine two_ready 1 3 (by kernel_rfl) rfl rfl (by rfl) (by rfl) (fun K hK => ?_) (fun K hK => ?_)
                      · go_simp
                        refine hK.out _ _ trivial ?_
                        clear hK K
                        try simp only [Act.put, List.setIfInBounds_toArray]
                        try simp only [List.set_cons_zero, List.set_cons_succ]
                        refine one_ready 3 (by kernel_rfl) rfl (by rfl) (fun K hK => ?_)
                        go_simp
                        refine hK.out _ _ trivial ?_
                        clear hK K
                        try simp only [Act.put, List.setIfInBounds_toArray]
                        try simp only [List.set_cons_zero, List.set_cons_succ]
                        refine take_val 4 (.pointer (some ⟨g, off, none⟩)) rfl (by kernel_rfl) (by kernel_rfl) (by kernel_rfl) (fun _ _ _ _ h => h) (by rfl) rfl (fun wz hS => by go_simp) trivial ?_
                        try simp only [List.set_cons_zero, List.set_cons_succ]
                        refine take_val 5 (.pointer (some ⟨g, off + 2, none⟩)) rfl (by kernel_rfl) (by kernel_rfl) (by kernel_rfl) (fun _ _ _ _ h => h) (by rfl) rfl (fun wz hS => by go_simp) trivial ?_
                        try simp only [List.set_cons_zero, List.set_cons_succ]
                        refine one_ready 6 (by kernel_rfl) rfl (by rfl) (fun K hK => ?_)
                        go_simp
                        refine hK.out _ _ trivial ?_
                        clear hK K
                        try simp only [Act.put, List.setIfInBounds_toArray]
                        try simp only [List.set_cons_zero, List.set_cons_succ]
                        refine one_ready 7 (by kernel_rfl) rfl (by rfl) (fun K hK => ?_)
                        go_simp
                        refine hK.out _ _ trivial ?_
                        clear hK K
                        try simp only [Act.put, List.setIfInBounds_toArray]
                        try simp only [List.set_cons_zero, List.set_cons_succ]
                        refine one_ready 8 (by kernel_rfl) rfl (by rfl) (fun K hK => ?_)
                        refine wp_append_own _ _ _ 22 rfl w1.heap.size 9 i0 (.string ⟨#[]⟩) 1 16 Try.underlying22 hi0 hz0 hz1 hz2 rfl (by decide) _ GJ.length (GJ.flatMap stC) rfl (HRU.out.1.alloc (.cells #[.string yt] 9)) ⟨u1.heap.size, 0, none⟩ 1 1 (stC yt) rfl rfl D1.out HONE.out D3.out D4.out D5.out (fun v' w' hown' hgrow _ => ?_)
                        obtain ⟨oa, oc, rfl⟩ := own_formK hown'
                        have HOWN : Hid (w'.ownsRow w1.heap.size 9 1 (.slice oa (GJ ++ [yt]).length oc) (GJ ++ [yt]).length ((GJ ++ [yt]).flatMap stC)) := by
                          show w'.ownsRow _ _ _ _ _ _
                          rw [List.length_append, List.flatMap_append, List.flatMap_singleton]
                          exact hown'
                        have HRA := Lib.hid (HRU.out.below ((Below.refl u1.heap.size u1).alloc (Nat.le_refl _) (.cells #[.string yt] 9)))
                        have HGR := Lib.hid hgrow
                        have HROWW := Lib.hid ((hgrow.block ob (lt_of_block HRA.out.2.2.1) (own_neqK HRA.out.1 HRA.out.2.2.1 (by decide))).trans HRA.out.2.2.1)
                        have z0 := cell_of_row _ _ 0 _ _ _ HROWW.out
                        have zf := frozen_of_row _ _ 0 _ _ HROWW.out
                        simp only [List.getElem?_toArray, List.getElem?_cons_succ, List.getElem?_cons_zero] at z0
                        clear hown' hgrow
                        refine hK.out _ _ trivial ?_
                        clear hK K
                        try simp only [Act.put, List.setIfInBounds_toArray]
                        try simp only [List.set_cons_zero, List.set_cons_succ]
                        refine take_val 9 (.pointer (some ⟨ob, 0, none⟩)) rfl (by kernel_rfl) (by kernel_rfl) (by kernel_rfl) (fun _ _ _ _ h => h) (by rfl) rfl (fun wz hS => by go_simp) trivial ?_
                        try simp only [List.set_cons_zero, List.set_cons_succ]
                        refine one_ready 10 (by kernel_rfl) rfl (by rfl) (fun K hK => ?_)
                        go_simp
                        refine hK.out _ _ trivial ?_
                        clear hK K
                        try simp only [Act.put, List.setIfInBounds_toArray]
                        try simp only [List.set_cons_zero, List.set_cons_succ]
                        refine wpAnyH_done (by kernel_rfl) ?_ _
                        refine NoPanic.normal ?_
                        have hstr := HRA.out.strings HGR.out HOWN.out
                        have hlen : (GJ ++ [yt]).length = GJ.length + 1 := by simp
                        have HRN : Hid (RSt w1.heap.size ob oa oc (some ⟨g, off, none⟩) d2 (GJ ++ [yt]) M (w'.setCell ⟨ob, 0, none⟩ (.slice oa (GJ.length + 1) oc))) := by
                          show RSt _ _ _ _ _ _ _ _ _
                          rw [← hlen]
                          exact hstr
                        clear hlen
                        have v1 := cell_of_row _ _ 1 _ _ _ HRN.out.2.2.1
                        have vf := frozen_of_row _ _ 1 _ _ HRN.out.2.2.1
                        simp only [List.getElem?_toArray, List.getElem?_cons_succ, List.getElem?_cons_zero] at v1
                        have HBA := Lib.hid (below_own (HBU1.out.alloc HBU1.out.size (.cells #[.string yt] 9)) HGR.out (by have := HBU1.out.size; have := HSZ1.out; simp; omega) (HRU.out.1.alloc (.cells #[.string yt] 9)) (by have := HSZ1.out; omega))
                        have HBN := Lib.hid (HBA.out.setCell (p := ⟨ob, 0, none⟩) (by have := HSR.out.2.2.2; have := HSZ1.out; show _ ≤ ob; omega) (.slice oa (GJ.length + 1) oc))
                        have hk1 : w.heap.size + 1 + 1 < w1.heap.size := by have := HSZ1.out; omega
                        have HP1N := Lib.hid ((Below.heap_setCell w' ⟨ob, 0, none⟩ (.slice oa (GJ.length + 1) oc) (w.heap.size + 1) (by have := HSR.out.2.2.2; show _ ≠ ob; omega)).trans ((HGR.out.block _ (by have := lt_of_block HPU.out; simp; omega) (ownblock_ne HRA.out.1 (by omega))).trans ((Below.heap_alloc u1 (.cells #[.string yt] 9) _ (lt_of_block HPU.out)).trans HPU.out)))
                        have HP2N := Lib.hid ((Below.heap_setCell w' ⟨ob, 0, none⟩ (.slice oa (GJ.length + 1) oc) (w.heap.size + 1 + 1) (by have := HSR.out.2.2.2; show _ ≠ ob; omega)).trans ((HGR.out.block _ (by have := lt_of_block HZU.out; simp; omega) (ownblock_ne HRA.out.1 (by omega))).trans ((Below.heap_alloc u1 (.cells #[.string yt] 9) _ (lt_of_block HZU.out)).trans HZU.out)))
                        clear hstr z0 zf hk1
                        have HNX : Hid (∀ i (h : i < held.length), i < j + 1 → held[i].2.1 = (got.length : Int) + i) := fun i h1 h2 => by
                          rcases Nat.lt_or_ge i j with h3 | h3
                          · exact HDR.out i h1 h3
                          · obtain rfl : i = j := by omega
                            exact HYL.out
                        have HGN : Hid (got ++ (held.take (j + 1)).map (fun q => q.2.2) = GJ ++ [yt]) := by
                          show _ = _
                          rw [List.take_succ_eq_append_getElem hjL, List.map_append, ← List.append_assoc, HGJ.out]
                          have := HYP.out
                          simp only [this, List.map_cons, List.map_nil]
                        have HMN : Hid (held.drop (j + 1) = M.drop 1) := by
                          show _ = _
                          rw [← HM.out, List.drop_drop]
                        have HML1 : Hid ((M.drop 1).length = M.length - 1) := List.length_drop ..
                        have c1' : (1 : Int) ≤ (M.length : Int) := by omega
                        have HTL := Lib.hid (HRN.out.2.1.1.tail (c := pkC))
                        by_cases hd : d2 = 1
                        · have hM1 : M.length = 1 := by have := HRN.out.2.1.2.2.1; omega
                          have HRF := Lib.hid (HRN.out.row (b2 := some ⟨g, off, none⟩) (M := M.drop 1) (d2 := 0) ⟨by rw [List.drop_of_length_le (by omega)]; exact SAt.nil, HRN.out.2.1.2.1, by rw [HML1.out]; omega, by omega⟩)
                          rw [HML1.out, show M.length - 1 = 0 by omega] at HRF
                          subst hd
                          go_wp2_with fail
                          go_roundw
                          case rel => exact ⟨j + 1, oa, oc, _, _, hjL, Lib.hid (by rw [HGN.out, HMN.out]; exact HRF.out), Lib.hid (HBN.out.setCell (p := ⟨ob, 1, none⟩) (by have := HSR.out.2.2.2; have := HSZ1.out; show _ ≤ ob; omega) _), Lib.hid ((Below.heap_setCell _ ⟨ob, 1, none⟩ _ (w.heap.size + 1) (by have := HSR.out.2.2.2; have := HSZ1.out; show _ ≠ ob; omega)).trans HP1N.out), Lib.hid ((Below.heap_setCell _ ⟨ob, 1, none⟩ _ (w.heap.size + 1 + 1) (by have := HSR.out.2.2.2; have := HSZ1.out; show _ ≠ ob; omega)).trans HP2N.out), HNX⟩
                          case measure =>
                            have e2 := cell_of_row _ _ 1 _ _ _ HRF.out.2.2.1
                            have e1 := cell_of_row _ _ 1 _ _ _ HSR.out.2.2.1
                            simp only [List.getElem?_toArray, List.getElem?_cons_succ, List.getElem?_cons_zero] at e1 e2
                            rw [e1, e2]
                            simp only [Option.getD_some, lenOfV]
                            have := HML1.out
                            omega
                        · have hd' : ¬ (d2 = 1) := hd
                          have HRF := Lib.hid (HRN.out.row (b2 := some ⟨g, off + 3, none⟩) (M := M.drop 1) (d2 := d2 - 1) ⟨HTL.out, fun ad e => by injection e with e; subst e; exact HRN.out.2.1.2.1 ⟨g, off, none⟩ rfl, by rw [HML1.out]; have := HRN.out.2.1.2.2.1; omega, by have := HRN.out.2.1.2.2.2; omega⟩)
                          rw [HML1.out] at HRF
                          go_wp2_with fail
                          go_roundw
                          case rel => exact ⟨j + 1, oa, oc, _, _, hjL, Lib.hid (by rw [HGN.out, HMN.out]; exact HRF.out), Lib.hid (HBN.out.setCell (p := ⟨ob, 1, none⟩) (by have := HSR.out.2.2.2; have := HSZ1.out; show _ ≤ ob; omega) _), Lib.hid ((Below.heap_setCell _ ⟨ob, 1, none⟩ _ (w.heap.size + 1) (by have := HSR.out.2.2.2; have := HSZ1.out; show _ ≠ ob; omega)).trans HP1N.out), Lib.hid ((Below.heap_setCell _ ⟨ob, 1, none⟩ _ (w.heap.size + 1 + 1) (by have := HSR.out.2.2.2; have := HSZ1.out; show _ ≠ ob; omega)).trans HP2N.out), HNX⟩
                          case measure =>
                            have e2 := cell_of_row _ _ 1 _ _ _ HRF.out.2.2.1
                            have e1 := cell_of_row _ _ 1 _ _ _ HSR.out.2.2.1
                            simp only [List.getElem?_toArray, List.getElem?_cons_succ, List.getElem?_cons_zero] at e1 e2
                            rw [e1, e2]
                            simp only [Option.getD_some, lenOfV]
                            have := HML1.out
                            omega
                      · go_simp
                        refine hK.out _ _ trivial ?_
                        clear hK K
                        try simp only [Act.put, List.setIfInBounds_toArray]
                        try simp only [List.set_cons_zero, List.set_cons_succ]
                        refine take_val 4 (.pointer (some ⟨g, off, none⟩)) rfl (by kernel_rfl) (by kernel_rfl) (by kernel_rfl) (fun _ _ _ _ h => h) (by rfl) rfl (fun wz hS => by go_simp) trivial ?_
                        try simp only [List.set_cons_zero, List.set_cons_succ]
                        refine take_val 5 (.pointer (some ⟨g, off + 2, none⟩)) rfl (by kernel_rfl) (by kernel_rfl) (by kernel_rfl) (fun _ _ _ _ h => h) (by rfl) rfl (fun wz hS => by go_simp) trivial ?_
                        try simp only [List.set_cons_zero, List.set_cons_succ]
                        refine two_ready 1 6 (by kernel_rfl) rfl rfl (by rfl) (by rfl) (fun K hK => ?_) (fun K hK => ?_)
                        · go_simp
                          refine hK.out _ _ trivial ?_
                          clear hK K
                          try simp only [Act.put, List.setIfInBounds_toArray]
                          try simp only [List.set_cons_zero, List.set_cons_succ]
                          refine one_ready 6 (by kernel_rfl) rfl (by rfl) (fun K hK => ?_)
                          go_simp
                          refine hK.out _ _ trivial ?_
                          clear hK K
                          try simp only [Act.put, List.setIfInBounds_toArray]
                          try simp only [List.set_cons_zero, List.set_cons_succ]
                          refine one_ready 7 (by kernel_rfl) rfl (by rfl) (fun K hK => ?_)
                          go_simp
                          refine hK.out _ _ trivial ?_
                          clear hK K
                          try simp only [Act.put, List.setIfInBounds_toArray]
                          try simp only [List.set_cons_zero, List.set_cons_succ]
                          refine one_ready 8 (by kernel_rfl) rfl (by rfl) (fun K hK => ?_)
                          refine wp_append_own _ _ _ 22 rfl w1.heap.size 9 i0 (.string ⟨#[]⟩) 1 16 Try.underlying22 hi0 hz0 hz1 hz2 rfl (by decide) _ GJ.length (GJ.flatMap stC) rfl (HRU.out.1.alloc (.cells #[.string yt] 9)) ⟨u1.heap.size, 0, none⟩ 1 1 (stC yt) rfl rfl D1.out HONE.out D3.out D4.out D5.out (fun v' w' hown' hgrow _ => ?_)
                          obtain ⟨oa, oc, rfl⟩ := own_formK hown'
                          have HOWN : Hid (w'.ownsRow w1.heap.size 9 1 (.slice oa (GJ ++ [yt]).length oc) (GJ ++ [yt]).length ((GJ ++ [yt]).flatMap stC)) := by
                            show w'.ownsRow _ _ _ _ _ _
                            rw [List.length_append, List.flatMap_append, List.flatMap_singleton]
                            exact hown'
                          have HRA := Lib.hid (HRU.out.below ((Below.refl u1.heap.size u1).alloc (Nat.le_refl _) (.cells #[.string yt] 9)))
                          have HGR := Lib.hid hgrow
                          have HROWW := Lib.hid ((hgrow.block ob (lt_of_block HRA.out.2.2.1) (own_neqK HRA.out.1 HRA.out.2.2.1 (by decide))).trans HRA.out.2.2.1)
                          have z0 := cell_of_row _ _ 0 _ _ _ HROWW.out
                          have zf := frozen_of_row _ _ 0 _ _ HROWW.out
                          simp only [List.getElem?_toArray, List.getElem?_cons_succ, List.getElem?_cons_zero] at z0
                          clear hown' hgrow
                          refine hK.out _ _ trivial ?_
                          clear hK K
                          try simp only [Act.put, List.setIfInBounds_toArray]
                          try simp only [List.set_cons_zero, List.set_cons_succ]
                          refine take_val 9 (.pointer (some ⟨ob, 0, none⟩)) rfl (by kernel_rfl) (by kernel_rfl) (by kernel_rfl) (fun _ _ _ _ h => h) (by rfl) rfl (fun wz hS => by go_simp) trivial ?_
                          try simp only [List.set_cons_zero, List.set_cons_succ]
                          refine one_ready 10 (by kernel_rfl) rfl (by rfl) (fun K hK => ?_)
                          go_simp
                          refine hK.out _ _ trivial ?_
                          clear hK K
                          try simp only [Act.put, List.setIfInBounds_toArray]
                          try simp only [List.set_cons_zero, List.set_cons_succ]
                          refine wpAnyH_done (by kernel_rfl) ?_ _
                          refine NoPanic.normal ?_
                          have hstr := HRA.out.strings HGR.out HOWN.out
                          have hlen : (GJ ++ [yt]).length = GJ.length + 1 := by simp
                          have HRN : Hid (RSt w1.heap.size ob oa oc (some ⟨g, off, none⟩) d2 (GJ ++ [yt]) M (w'.setCell ⟨ob, 0, none⟩ (.slice oa (GJ.length + 1) oc))) := by
                            show RSt _ _ _ _ _ _ _ _ _
                            rw [← hlen]
                            exact hstr
                          clear hlen
                          have v1 := cell_of_row _ _ 1 _ _ _ HRN.out.2.2.1
                          have vf := frozen_of_row _ _ 1 _ _ HRN.out.2.2.1
                          simp only [List.getElem?_toArray, List.getElem?_cons_succ, List.getElem?_cons_zero] at v1
                          have HBA := Lib.hid (below_own (HBU1.out.alloc HBU1.out.size (.cells #[.string yt] 9)) HGR.out (by have := HBU1.out.size; have := HSZ1.out; simp; omega) (HRU.out.1.alloc (.cells #[.string yt] 9)) (by have := HSZ1.out; omega))
                          have HBN := Lib.hid (HBA.out.setCell (p := ⟨ob, 0, none⟩) (by have := HSR.out.2.2.2; have := HSZ1.out; show _ ≤ ob; omega) (.slice oa (GJ.length + 1) oc))
                          have hk1 : w.heap.size + 1 + 1 < w1.heap.size := by have := HSZ1.out; omega
                          have HP1N := Lib.hid ((Below.heap_setCell w' ⟨ob, 0, none⟩ (.slice oa (GJ.length + 1) oc) (w.heap.size + 1) (by have := HSR.out.2.2.2; show _ ≠ ob; omega)).trans ((HGR.out.block _ (by have := lt_of_block HPU.out; simp; omega) (ownblock_ne HRA.out.1 (by omega))).trans ((Below.heap_alloc u1 (.cells #[.string yt] 9) _ (lt_of_block HPU.out)).trans HPU.out)))
                          have HP2N := Lib.hid ((Below.heap_setCell w' ⟨ob, 0, none⟩ (.slice oa (GJ.length + 1) oc) (w.heap.size + 1 + 1) (by have := HSR.out.2.2.2; show _ ≠ ob; omega)).trans ((HGR.out.block _ (by have := lt_of_block HZU.out; simp; omega) (ownblock_ne HRA.out.1 (by omega))).trans ((Below.heap_alloc u1 (.cells #[.string yt] 9) _ (lt_of_block HZU.out)).trans HZU.out)))
                          clear hstr z0 zf hk1
                          have HNX : Hid (∀ i (h : i < held.length), i < j + 1 → held[i].2.1 = (got.length : Int) + i) := fun i h1 h2 => by
                            rcases Nat.lt_or_ge i j with h3 | h3
                            · exact HDR.out i h1 h3
                            · obtain rfl : i = j := by omega
                              exact HYL.out
                          have HGN : Hid (got ++ (held.take (j + 1)).map (fun q => q.2.2) = GJ ++ [yt]) := by
                            show _ = _
                            rw [List.take_succ_eq_append_getElem hjL, List.map_append, ← List.append_assoc, HGJ.out]
                            have := HYP.out
                            simp only [this, List.map_cons, List.map_nil]
                          have HMN : Hid (held.drop (j + 1) = M.drop 1) := by
                            show _ = _
                            rw [← HM.out, List.drop_drop]
                          have HML1 : Hid ((M.drop 1).length = M.length - 1) := List.length_drop ..
                          have c1' : (1 : Int) ≤ (M.length : Int) := by omega
                          have HTL := Lib.hid (HRN.out.2.1.1.tail (c := pkC))
                          by_cases hd : d2 = 1
                          · have hM1 : M.length = 1 := by have := HRN.out.2.1.2.2.1; omega
                            have HRF := Lib.hid (HRN.out.row (b2 := some ⟨g, off, none⟩) (M := M.drop 1) (d2 := 0) ⟨by rw [List.drop_of_length_le (by omega)]; exact SAt.nil, HRN.out.2.1.2.1, by rw [HML1.out]; omega, by omega⟩)
                            rw [HML1.out, show M.length - 1 = 0 by omega] at HRF
                            subst hd
                            go_wp2_with fail
                            go_roundw
                            case rel => exact ⟨j + 1, oa, oc, _, _, hjL, Lib.hid (by rw [HGN.out, HMN.out]; exact HRF.out), Lib.hid (HBN.out.setCell (p := ⟨ob, 1, none⟩) (by have := HSR.out.2.2.2; have := HSZ1.out; show _ ≤ ob; omega) _), Lib.hid ((Below.heap_setCell _ ⟨ob, 1, none⟩ _ (w.heap.size + 1) (by have := HSR.out.2.2.2; have := HSZ1.out; show _ ≠ ob; omega)).trans HP1N.out), Lib.hid ((Below.heap_setCell _ ⟨ob, 1, none⟩ _ (w.heap.size + 1 + 1) (by have := HSR.out.2.2.2; have := HSZ1.out; show _ ≠ ob; omega)).trans HP2N.out), HNX⟩
                            case measure =>
                              have e2 := cell_of_row _ _ 1 _ _ _ HRF.out.2.2.1
                              have e1 := cell_of_row _ _ 1 _ _ _ HSR.out.2.2.1
                              simp only [List.getElem?_toArray, List.getElem?_cons_succ, List.getElem?_cons_zero] at e1 e2
                              rw [e1, e2]
                              simp only [Option.getD_some, lenOfV]
                              have := HML1.out
                              omega
                          · have hd' : ¬ (d2 = 1) := hd
                            have HRF := Lib.hid (HRN.out.row (b2 := some ⟨g, off + 3, none⟩) (M := M.drop 1) (d2 := d2 - 1) ⟨HTL.out, fun ad e => by injection e with e; subst e; exact HRN.out.2.1.2.1 ⟨g, off, none⟩ rfl, by rw [HML1.out]; have := HRN.out.2.1.2.2.1; omega, by have := HRN.out.2.1.2.2.2; omega⟩)
                            rw [HML1.out] at HRF
                            go_wp2_with fail
                            go_roundw
                            case rel => exact ⟨j + 1, oa, oc, _, _, hjL, Lib.hid (by rw [HGN.out, HMN.out]; exact HRF.out), Lib.hid (HBN.out.setCell (p := ⟨ob, 1, none⟩) (by have := HSR.out.2.2.2; have := HSZ1.out; show _ ≤ ob; omega) _), Lib.hid ((Below.heap_setCell _ ⟨ob, 1, none⟩ _ (w.heap.size + 1) (by have := HSR.out.2.2.2; have := HSZ1.out; show _ ≠ ob; omega)).trans HP1N.out), Lib.hid ((Below.heap_setCell _ ⟨ob, 1, none⟩ _ (w.heap.size + 1 + 1) (by have := HSR.out.2.2.2; have := HSZ1.out; show _ ≠ ob; omega)).trans HP2N.out), HNX⟩
                            case measure =>
                              have e2 := cell_of_row _ _ 1 _ _ _ HRF.out.2.2.1
                              have e1 := cell_of_row _ _ 1 _ _ _ HSR.out.2.2.1
                              simp only [List.getElem?_toArray, List.getElem?_cons_succ, List.getElem?_cons_zero] at e1 e2
                              rw [e1, e2]
                              simp only [Option.getD_some, lenOfV]
                              have := HML1.out
                              omega
                        · go_simp
                          refine hK.out _ _ trivial ?_
                          clear hK K
                          try simp only [Act.put, List.setIfInBounds_toArray]
                          try simp only [List.set_cons_zero, List.set_cons_succ]
                          refine two_ready 1 7 (by kernel_rfl) rfl rfl (by rfl) (by rfl) (fun K hK => ?_) (fun K hK => ?_)
                          · go_simp
                            refine hK.out _ _ trivial ?_
                            clear hK K
                            try simp only [Act.put, List.setIfInBounds_toArray]
                            try simp only [List.set_cons_zero, List.set_cons_succ]
                            refine one_ready 7 (by kernel_rfl) rfl (by rfl) (fun K hK => ?_)
                            go_simp
                            refine hK.out _ _ trivial ?_
                            clear hK K
                            try simp only [Act.put, List.setIfInBounds_toArray]
                            try simp only [List.set_cons_zero, List.set_cons_succ]
                            refine one_ready 8 (by kernel_rfl) rfl (by rfl) (fun K hK => ?_)
                            refine wp_append_own _ _ _ 22 rfl w1.heap.size 9 i0 (.string ⟨#[]⟩) 1 16 Try.underlying22 hi0 hz0 hz1 hz2 rfl (by decide) _ GJ.length (GJ.flatMap stC) rfl (HRU.out.1.alloc (.cells #[.string yt] 9)) ⟨u1.heap.size, 0, none⟩ 1 1 (stC yt) rfl rfl D1.out HONE.out D3.out D4.out D5.out (fun v' w' hown' hgrow _ => ?_)
                            obtain ⟨oa, oc, rfl⟩ := own_formK hown'
                            have HOWN : Hid (w'.ownsRow w1.heap.size 9 1 (.slice oa (GJ ++ [yt]).length oc) (GJ ++ [yt]).length ((GJ ++ [yt]).flatMap stC)) := by
                              show w'.ownsRow _ _ _ _ _ _
                              rw [List.length_append, List.flatMap_append, List.flatMap_singleton]
                              exact hown'
                            have HRA := Lib.hid (HRU.out.below ((Below.refl u1.heap.size u1).alloc (Nat.le_refl _) (.cells #[.string yt] 9)))
                            have HGR := Lib.hid hgrow
                            have HROWW := Lib.hid ((hgrow.block ob (lt_of_block HRA.out.2.2.1) (own_neqK HRA.out.1 HRA.out.2.2.1 (by decide))).trans HRA.out.2.2.1)
                            have z0 := cell_of_row _ _ 0 _ _ _ HROWW.out
                            have zf := frozen_of_row _ _ 0 _ _ HROWW.out
                            simp only [List.getElem?_toArray, List.getElem?_cons_succ, List.getElem?_cons_zero] at z0
                            clear hown' hgrow
                            refine hK.out _ _ trivial ?_
                            clear hK K
                            try simp only [Act.put, List.setIfInBounds_toArray]
                            try simp only [List.set_cons_zero, List.set_cons_succ]
                            refine take_val 9 (.pointer (some ⟨ob, 0, none⟩)) rfl (by kernel_rfl) (by kernel_rfl) (by kernel_rfl) (fun _ _ _ _ h => h) (by rfl) rfl (fun wz hS => by go_simp) trivial ?_
                            try simp only [List.set_cons_zero, List.set_cons_succ]
                            refine one_ready 10 (by kernel_rfl) rfl (by rfl) (fun K hK => ?_)
                            go_simp
                            refine hK.out _ _ trivial ?_
                            clear hK K
                            try simp only [Act.put, List.setIfInBounds_toArray]
                            try simp only [List.set_cons_zero, List.set_cons_succ]
                            refine wpAnyH_done (by kernel_rfl) ?_ _
                            refine NoPanic.normal ?_
                            have hstr := HRA.out.strings HGR.out HOWN.out
                            have hlen : (GJ ++ [yt]).length = GJ.length + 1 := by simp
                            have HRN : Hid (RSt w1.heap.size ob oa oc (some ⟨g, off, none⟩) d2 (GJ ++ [yt]) M (w'.setCell ⟨ob, 0, none⟩ (.slice oa (GJ.length + 1) oc))) := by
                              show RSt _ _ _ _ _ _ _ _ _
                              rw [← hlen]
                              exact hstr
                            clear hlen
                            have v1 := cell_of_row _ _ 1 _ _ _ HRN.out.2.2.1
                            have vf := frozen_of_row _ _ 1 _ _ HRN.out.2.2.1
                            simp only [List.getElem?_toArray, List.getElem?_cons_succ, List.getElem?_cons_zero] at v1
                            have HBA := Lib.hid (below_own (HBU1.out.alloc HBU1.out.size (.cells #[.string yt] 9)) HGR.out (by have := HBU1.out.size; have := HSZ1.out; simp; omega) (HRU.out.1.alloc (.cells #[.string yt] 9)) (by have := HSZ1.out; omega))
                            have HBN := Lib.hid (HBA.out.setCell (p := ⟨ob, 0, none⟩) (by have := HSR.out.2.2.2; have := HSZ1.out; show _ ≤ ob; omega) (.slice oa (GJ.length + 1) oc))
                            have hk1 : w.heap.size + 1 + 1 < w1.heap.size := by have := HSZ1.out; omega
                            have HP1N := Lib.hid ((Below.heap_setCell w' ⟨ob, 0, none⟩ (.slice oa (GJ.length + 1) oc) (w.heap.size + 1) (by have := HSR.out.2.2.2; show _ ≠ ob; omega)).trans ((HGR.out.block _ (by have := lt_of_block HPU.out; simp; omega) (ownblock_ne HRA.out.1 (by omega))).trans ((Below.heap_alloc u1 (.cells #[.string yt] 9) _ (lt_of_block HPU.out)).trans HPU.out)))
                            have HP2N := Lib.hid ((Below.heap_setCell w' ⟨ob, 0, none⟩ (.slice oa (GJ.length + 1) oc) (w.heap.size + 1 + 1) (by have := HSR.out.2.2.2; show _ ≠ ob; omega)).trans ((HGR.out.block _ (by have := lt_of_block HZU.out; simp; omega) (ownblock_ne HRA.out.1 (by omega))).trans ((Below.heap_alloc u1 (.cells #[.string yt] 9) _ (lt_of_block HZU.out)).trans HZU.out)))
                            clear hstr z0 zf hk1
                            have HNX : Hid (∀ i (h : i < held.length), i < j + 1 → held[i].2.1 = (got.length : Int) + i) := fun i h1 h2 => by
                              rcases Nat.lt_or_ge i j with h3 | h3
                              · exact HDR.out i h1 h3
                              · obtain rfl : i = j := by omega
                                exact HYL.out
                            have HGN : Hid (got ++ (held.take (j + 1)).map (fun q => q.2.2) = GJ ++ [yt]) := by
                              show _ = _
                              rw [List.take_succ_eq_append_getElem hjL, List.map_append, ← List.append_assoc, HGJ.out]
                              have := HYP.out
                              simp only [this, List.map_cons, List.map_nil]
                            have HMN : Hid (held.drop (j + 1) = M.drop 1) := by
                              show _ = _
                              rw [← HM.out, List.drop_drop]
                            have HML1 : Hid ((M.drop 1).length = M.length - 1) := List.length_drop ..
                            have c1' : (1 : Int) ≤ (M.length : Int) := by omega
                            have HTL := Lib.hid (HRN.out.2.1.1.tail (c := pkC))
                            by_cases hd : d2 = 1
                            · have hM1 : M.length = 1 := by have := HRN.out.2.1.2.2.1; omega
                              have HRF := Lib.hid (HRN.out.row (b2 := some ⟨g, off, none⟩) (M := M.drop 1) (d2 := 0) ⟨by rw [List.drop_of_length_le (by omega)]; exact SAt.nil, HRN.out.2.1.2.1, by rw [HML1.out]; omega, by omega⟩)
                              rw [HML1.out, show M.length - 1 = 0 by omega] at HRF
                              subst hd
                              go_wp2_with fail
                              go_roundw
                              case rel => exact ⟨j + 1, oa, oc, _, _, hjL, Lib.hid (by rw [HGN.out, HMN.out]; exact HRF.out), Lib.hid (HBN.out.setCell (p := ⟨ob, 1, none⟩) (by have := HSR.out.2.2.2; have := HSZ1.out; show _ ≤ ob; omega) _), Lib.hid ((Below.heap_setCell _ ⟨ob, 1, none⟩ _ (w.heap.size + 1) (by have := HSR.out.2.2.2; have := HSZ1.out; show _ ≠ ob; omega)).trans HP1N.out), Lib.hid ((Below.heap_setCell _ ⟨ob, 1, none⟩ _ (w.heap.size + 1 + 1) (by have := HSR.out.2.2.2; have := HSZ1.out; show _ ≠ ob; omega)).trans HP2N.out), HNX⟩
                              case measure =>
                                have e2 := cell_of_row _ _ 1 _ _ _ HRF.out.2.2.1
                                have e1 := cell_of_row _ _ 1 _ _ _ HSR.out.2.2.1
                                simp only [List.getElem?_toArray, List.getElem?_cons_succ, List.getElem?_cons_zero] at e1 e2
                                rw [e1, e2]
                                simp only [Option.getD_some, lenOfV]
                                have := HML1.out
                                omega
                            · have hd' : ¬ (d2 = 1) := hd
                              have HRF := Lib.hid (HRN.out.row (b2 := some ⟨g, off + 3, none⟩) (M := M.drop 1) (d2 := d2 - 1) ⟨HTL.out, fun ad e => by injection e with e; subst e; exact HRN.out.2.1.2.1 ⟨g, off, none⟩ rfl, by rw [HML1.out]; have := HRN.out.2.1.2.2.1; omega, by have := HRN.out.2.1.2.2.2; omega⟩)
                              rw [HML1.out] at HRF
                              go_wp2_with fail
                              go_roundw
                              case rel => exact ⟨j + 1, oa, oc, _, _, hjL, Lib.hid (by rw [HGN.out, HMN.out]; exact HRF.out), Lib.hid (HBN.out.setCell (p := ⟨ob, 1, none⟩) (by have := HSR.out.2.2.2; have := HSZ1.out; show _ ≤ ob; omega) _), Lib.hid ((Below.heap_setCell _ ⟨ob, 1, none⟩ _ (w.heap.size + 1) (by have := HSR.out.2.2.2; have := HSZ1.out; show _ ≠ ob; omega)).trans HP1N.out), Lib.hid ((Below.heap_setCell _ ⟨ob, 1, none⟩ _ (w.heap.size + 1 + 1) (by have := HSR.out.2.2.2; have := HSZ1.out; show _ ≠ ob; omega)).trans HP2N.out), HNX⟩
                              case measure =>
                                have e2 := cell_of_row _ _ 1 _ _ _ HRF.out.2.2.1
                                have e1 := cell_of_row _ _ 1 _ _ _ HSR.out.2.2.1
                                simp only [List.getElem?_toArray, List.getElem?_cons_succ, List.getElem?_cons_zero] at e1 e2
                                rw [e1, e2]
                                simp only [Option.getD_some, lenOfV]
                                have := HML1.out
                                omega
                          · go_simp
                            refine hK.out _ _ trivial ?_
                            clear hK K
                            try simp only [Act.put, List.setIfInBounds_toArray]
                            try simp only [List.set_cons_zero, List.set_cons_succ]
                            refine one_ready 1 (by kernel_rfl) rfl (by rfl) (fun K hK => ?_)
                            go_simp
                            refine hK.out _ _ trivial ?_
                            clear hK K
                            try simp only [Act.put, List.setIfInBounds_toArray]
                            try simp only [List.set_cons_zero, List.set_cons_succ]
                            refine one_ready 8 (by kernel_rfl) rfl (by rfl) (fun K hK => ?_)
                            refine wp_append_own _ _ _ 22 rfl w1.heap.size 9 i0 (.string ⟨#[]⟩) 1 16 Try.underlying22 hi0 hz0 hz1 hz2 rfl (by decide) _ GJ.length (GJ.flatMap stC) rfl (HRU.out.1.alloc (.cells #[.string yt] 9)) ⟨u1.heap.size, 0, none⟩ 1 1 (stC yt) rfl rfl D1.out HONE.out D3.out D4.out D5.out (fun v' w' hown' hgrow _ => ?_)
                            obtain ⟨oa, oc, rfl⟩ := own_formK hown'
                            have HOWN : Hid (w'.ownsRow w1.heap.size 9 1 (.slice oa (GJ ++ [yt]).length oc) (GJ ++ [yt]).length ((GJ ++ [yt]).flatMap stC)) := by
                              show w'.ownsRow _ _ _ _ _ _
                              rw [List.length_append, List.flatMap_append, List.flatMap_singleton]
                              exact hown'
                            have HRA := Lib.hid (HRU.out.below ((Below.refl u1.heap.size u1).alloc (Nat.le_refl _) (.cells #[.string yt] 9)))
                            have HGR := Lib.hid hgrow
                            have HROWW := Lib.hid ((hgrow.block ob (lt_of_block HRA.out.2.2.1) (own_neqK HRA.out.1 HRA.out.2.2.1 (by decide))).trans HRA.out.2.2.1)
                            have z0 := cell_of_row _ _ 0 _ _ _ HROWW.out
                            have zf := frozen_of_row _ _ 0 _ _ HROWW.out
                            simp only [List.getElem?_toArray, List.getElem?_cons_succ, List.getElem?_cons_zero] at z0
                            clear hown' hgrow
                            refine hK.out _ _ trivial ?_
                            clear hK K
                            try simp only [Act.put, List.setIfInBounds_toArray]
                            try simp only [List.set_cons_zero, List.set_cons_succ]
                            refine take_val 9 (.pointer (some ⟨ob, 0, none⟩)) rfl (by kernel_rfl) (by kernel_rfl) (by kernel_rfl) (fun _ _ _ _ h => h) (by rfl) rfl (fun wz hS => by go_simp) trivial ?_
                            try simp only [List.set_cons_zero, List.set_cons_succ]
                            refine one_ready 10 (by kernel_rfl) rfl (by rfl) (fun K hK => ?_)
                            go_simp
                            refine hK.out _ _ trivial ?_
                            clear hK K
                            try simp only [Act.put, List.setIfInBounds_toArray]
                            try simp only [List.set_cons_zero, List.set_cons_succ]
                            refine wpAnyH_done (by kernel_rfl) ?_ _
                            refine NoPanic.normal ?_
                            have hstr := HRA.out.strings HGR.out HOWN.out
                            have hlen : (GJ ++ [yt]).length = GJ.length + 1 := by simp
                            have HRN : Hid (RSt w1.heap.size ob oa oc (some ⟨g, off, none⟩) d2 (GJ ++ [yt]) M (w'.setCell ⟨ob, 0, none⟩ (.slice oa (GJ.length + 1) oc))) := by
                              show RSt _ _ _ _ _ _ _ _ _
                              rw [← hlen]
                              exact hstr
                            clear hlen
                            have v1 := cell_of_row _ _ 1 _ _ _ HRN.out.2.2.1
                            have vf := frozen_of_row _ _ 1 _ _ HRN.out.2.2.1
                            simp only [List.getElem?_toArray, List.getElem?_cons_succ, List.getElem?_cons_zero] at v1
                            have HBA := Lib.hid (below_own (HBU1.out.alloc HBU1.out.size (.cells #[.string yt] 9)) HGR.out (by have := HBU1.out.size; have := HSZ1.out; simp; omega) (HRU.out.1.alloc (.cells #[.string yt] 9)) (by have := HSZ1.out; omega))
                            have HBN := Lib.hid (HBA.out.setCell (p := ⟨ob, 0, none⟩) (by have := HSR.out.2.2.2; have := HSZ1.out; show _ ≤ ob; omega) (.slice oa (GJ.length + 1) oc))
                            have hk1 : w.heap.size + 1 + 1 < w1.heap.size := by have := HSZ1.out; omega
                            have HP1N := Lib.hid ((Below.heap_setCell w' ⟨ob, 0, none⟩ (.slice oa (GJ.length + 1) oc) (w.heap.size + 1) (by have := HSR.out.2.2.2; show _ ≠ ob; omega)).trans ((HGR.out.block _ (by have := lt_of_block HPU.out; simp; omega) (ownblock_ne HRA.out.1 (by omega))).trans ((Below.heap_alloc u1 (.cells #[.string yt] 9) _ (lt_of_block HPU.out)).trans HPU.out)))
                            have HP2N := Lib.hid ((Below.heap_setCell w' ⟨ob, 0, none⟩ (.slice oa (GJ.length + 1) oc) (w.heap.size + 1 + 1) (by have := HSR.out.2.2.2; show _ ≠ ob; omega)).trans ((HGR.out.block _ (by have := lt_of_block HZU.out; simp; omega) (ownblock_ne HRA.out.1 (by omega))).trans ((Below.heap_alloc u1 (.cells #[.string yt] 9) _ (lt_of_block HZU.out)).trans HZU.out)))
                            clear hstr z0 zf hk1
                            have HNX : Hid (∀ i (h : i < held.length), i < j + 1 → held[i].2.1 = (got.length : Int) + i) := fun i h1 h2 => by
                              rcases Nat.lt_or_ge i j with h3 | h3
                              · exact HDR.out i h1 h3
                              · obtain rfl : i = j := by omega
                                exact HYL.out
                            have HGN : Hid (got ++ (held.take (j + 1)).map (fun q => q.2.2) = GJ ++ [yt]) := by
                              show _ = _
                              rw [List.take_succ_eq_append_getElem hjL, List.map_append, ← List.append_assoc, HGJ.out]
                              have := HYP.out
                              simp only [this, List.map_cons, List.map_nil]
                            have HMN : Hid (held.drop (j + 1) = M.drop 1) := by
                              show _ = _
                              rw [← HM.out, List.drop_drop]
                            have HML1 : Hid ((M.drop 1).length = M.length - 1) := List.length_drop ..
                            have c1' : (1 : Int) ≤ (M.length : Int) := by omega
                            have HTL := Lib.hid (HRN.out.2.1.1.tail (c := pkC))
                            by_cases hd : d2 = 1
                            · have hM1 : M.length = 1 := by have := HRN.out.2.1.2.2.1; omega
                              have HRF := Lib.hid (HRN.out.row (b2 := some ⟨g, off, none⟩) (M := M.drop 1) (d2 := 0) ⟨by rw [List.drop_of_length_le (by omega)]; exact SAt.nil, HRN.out.2.1.2.1, by rw [HML1.out]; omega, by omega⟩)
                              rw [HML1.out, show M.length - 1 = 0 by omega] at HRF
                              subst hd
                              go_wp2_with fail
                              go_roundw
                              case rel => exact ⟨j + 1, oa, oc, _, _, hjL, Lib.hid (by rw [HGN.out, HMN.out]; exact HRF.out), Lib.hid (HBN.out.setCell (p := ⟨ob, 1, none⟩) (by have := HSR.out.2.2.2; have := HSZ1.out; show _ ≤ ob; omega) _), Lib.hid ((Below.heap_setCell _ ⟨ob, 1, none⟩ _ (w.heap.size + 1) (by have := HSR.out.2.2.2; have := HSZ1.out; show _ ≠ ob; omega)).trans HP1N.out), Lib.hid ((Below.heap_setCell _ ⟨ob, 1, none⟩ _ (w.heap.size + 1 + 1) (by have := HSR.out.2.2.2; have := HSZ1.out; show _ ≠ ob; omega)).trans HP2N.out), HNX⟩
                              case measure =>
                                have e2 := cell_of_row _ _ 1 _ _ _ HRF.out.2.2.1
                                have e1 := cell_of_row _ _ 1 _ _ _ HSR.out.2.2.1
                                simp only [List.getElem?_toArray, List.getElem?_cons_succ, List.getElem?_cons_zero] at e1 e2
                                rw [e1, e2]
                                simp only [Option.getD_some, lenOfV]
                                have := HML1.out
                                omega
                            · have hd' : ¬ (d2 = 1) := hd
                              have HRF := Lib.hid (HRN.out.row (b2 := some ⟨g, off + 3, none⟩) (M := M.drop 1) (d2 := d2 - 1) ⟨HTL.out, fun ad e => by injection e with e; subst e; exact HRN.out.2.1.2.1 ⟨g, off, none⟩ rfl, by rw [HML1.out]; have := HRN.out.2.1.2.2.1; omega, by have := HRN.out.2.1.2.2.2; omega⟩)
                              rw [HML1.out] at HRF
                              go_wp2_with fail
                              go_roundw
                              case rel => exact ⟨j + 1, oa, oc, _, _, hjL, Lib.hid (by rw [HGN.out, HMN.out]; exact HRF.out), Lib.hid (HBN.out.setCell (p := ⟨ob, 1, none⟩) (by have := HSR.out.2.2.2; have := HSZ1.out; show _ ≤ ob; omega) _), Lib.hid ((Below.heap_setCell _ ⟨ob, 1, none⟩ _ (w.heap.size + 1) (by have := HSR.out.2.2.2; have := HSZ1.out; show _ ≠ ob; omega)).trans HP1N.out), Lib.hid ((Below.heap_setCell _ ⟨ob, 1, none⟩ _ (w.heap.size + 1 + 1) (by have := HSR.out.2.2.2; have := HSZ1.out; show _ ≠ ob; omega)).trans HP2N.out), HNX⟩
                              case measure =>
                                have e2 := cell_of_row _ _ 1 _ _ _ HRF.out.2.2.1
                                have e1 := cell_of_row _ _ 1 _ _ _ HSR.out.2.2.1
                                simp only [List.getElem?_toArray, List.getElem?_cons_succ, List.getElem?_cons_zero] at e1 e2
                                rw [e1, e2]
                                simp only [Option.getD_some, lenOfV]
                                have := HML1.out
                                omega
                    · have e1 : (yq == (GJ.length : Int)) = false := by rw [beq_eq_false_iff_ne]; exact hs
                      have HDN : Hid (Drain got.length held j) := ⟨hjl, HDR.out, fun h => by rw [HYP.out]; have := HGLN.out; simp only; omega⟩
                      clear hs
                      go_wp2_with fail
                      refine wp_region_noPanic ?_
                      refine wp_region_held_drew (S := fun u => Below wr.heap.size wr u) (by kernel_rfl) (Below.refl _ _).drew (fun hS0 => ?_)
                      have HS0 := Lib.hid hS0
                      clear hS0
                      refine take_val 0 (.pointer (some ⟨ob, 1, none⟩)) rfl (by kernel_rfl) (by kernel_rfl) (by kernel_rfl) (fun _ _ _ _ h => h) (by rfl) rfl (fun wz hS => by go_simp) HS0.out ?_
                      try simp only [List.set_cons_zero, List.set_cons_succ]
                      refine take_val 1 (.slice (some ⟨g, off, none⟩) M.length d2) rfl (by kernel_rfl) (by kernel_rfl) (by kernel_rfl) (fun _ _ _ _ h => h) (by rfl) rfl (fun wz hS => by have hz := cell_of_row _ _ 1 _ _ _ ((hS.block _ (lt_of_block HSR.out.2.2.1)).trans HSR.out.2.2.1); simp only [List.getElem?_toArray, List.getElem?_cons_zero, List.getElem?_cons_succ] at hz; go_simp) HS0.out ?_
                      try simp only [List.set_cons_zero, List.set_cons_succ]
                      refine take_val 2 (.int .i64 (M.length : Int)) rfl (by kernel_rfl) (by kernel_rfl) (by kernel_rfl) (fun _ _ _ _ h => h) (by rfl) rfl (fun wz hS => by go_simp) HS0.out ?_
                      try simp only [List.set_cons_zero, List.set_cons_succ]
                      refine take_val 3 (.bool true) rfl (by kernel_rfl) (by kernel_rfl) (by kernel_rfl) (fun _ _ _ _ h => h) (by rfl) rfl (fun wz hS => by go_simp) HS0.out ?_
                      try simp only [List.set_cons_zero, List.set_cons_succ]
                      refine take_val 4 (.bool true) rfl (by kernel_rfl) (by kernel_rfl) (by kernel_rfl) (fun _ _ _ _ h => h) (by rfl) rfl (fun wz hS => by go_simp) HS0.out ?_
                      try simp only [List.set_cons_zero, List.set_cons_succ]
                      refine take_val 5 (.pointer (some ⟨ob, 1, none⟩)) rfl (by kernel_rfl) (by kernel_rfl) (by kernel_rfl) (fun _ _ _ _ h => h) (by rfl) rfl (fun wz hS => by go_simp) HS0.out ?_
                      try simp only [List.set_cons_zero, List.set_cons_succ]
                      refine take_val 6 (.slice (some ⟨g, off, none⟩) M.length d2) rfl (by kernel_rfl) (by kernel_rfl) (by kernel_rfl) (fun _ _ _ _ h => h) (by rfl) rfl (fun wz hS => by have hz := cell_of_row _ _ 1 _ _ _ ((hS.block _ (lt_of_block HSR.out.2.2.1)).trans HSR.out.2.2.1); simp only [List.getElem?_toArray, List.getElem?_cons_zero, List.getElem?_cons_succ] at hz; go_simp) HS0.out ?_
                      try simp only [List.set_cons_zero, List.set_cons_succ]
                      refine take_val 7 (.pointer (some ⟨g, off, none⟩)) rfl (by kernel_rfl) (by kernel_rfl) (by kernel_rfl) (fun _ _ _ _ h => h) (by rfl) rfl (fun wz hS => by go_simp) HS0.out ?_
                      try simp only [List.set_cons_zero, List.set_cons_succ]
                      refine take_val 8 (.pointer (some ⟨g, off + 1, none⟩)) rfl (by kernel_rfl) (by kernel_rfl) (by kernel_rfl) (fun _ _ _ _ h => h) (by rfl) rfl (fun wz hS => by go_simp) HS0.out ?_
                      try simp only [List.set_cons_zero, List.set_cons_succ]
                      refine take_val 9 (.int .i64 yq) rfl (by kernel_rfl) (by kernel_rfl) (by kernel_rfl) (fun _ _ _ _ h => h) (by rfl) rfl (fun wz hS => by have hz := (hS.cell (p := ⟨g, off + 1, none⟩) HGL.out).trans HY1.out; go_simp) HS0.out ?_
                      try simp only [List.set_cons_zero, List.set_cons_succ]
                      refine take_val 10 (.pointer (some ⟨ob, 0, none⟩)) rfl (by kernel_rfl) (by kernel_rfl) (by kernel_rfl) (fun _ _ _ _ h => h) (by rfl) rfl (fun wz hS => by go_simp) HS0.out ?_
                      try simp only [List.set_cons_zero, List.set_cons_succ]
                      refine take_val 11 (.slice b1 GJ.length d1) rfl (by kernel_rfl) (by kernel_rfl) (by kernel_rfl) (fun _ _ _ _ h => h) (by rfl) rfl (fun wz hS => by have hz := cell_of_row _ _ 0 _ _ _ ((hS.block _ (lt_of_block HSR.out.2.2.1)).trans HSR.out.2.2.1); simp only [List.getElem?_toArray, List.getElem?_cons_zero, List.getElem?_cons_succ] at hz; go_simp) HS0.out ?_
                      try simp only [List.set_cons_zero, List.set_cons_succ]
                      refine take_val 12 (.int .i64 (GJ.length : Int)) rfl (by kernel_rfl) (by kernel_rfl) (by kernel_rfl) (fun _ _ _ _ h => h) (by rfl) rfl (fun wz hS => by go_simp) HS0.out ?_
                      try simp only [List.set_cons_zero, List.set_cons_succ]
                      refine take_val 13 (.bool false) rfl (by kernel_rfl) (by kernel_rfl) (by kernel_rfl) (fun _ _ _ _ h => h) (by rfl) rfl (fun wz hS => by go_simp) HS0.out ?_
                      try simp only [List.set_cons_zero, List.set_cons_succ]
                      refine take_val 14 (.bool false) rfl (by kernel_rfl) (by kernel_rfl) (by kernel_rfl) (fun _ _ _ _ h => h) (by rfl) rfl (fun wz hS => by go_simp) HS0.out ?_
                      try simp only [List.set_cons_zero, List.set_cons_succ]
                      refine wpAnyH_done (by kernel_rfl) ?_ _
                      refine NoPanic.normal ?_
                      have HRD := Lib.hid (HSR.out.below HS0.out)
                      have HBD := Lib.hid (Below.step HBW.out HS0.out)
                      have HPD := Lib.hid ((HS0.out.block _ (lt_of_block HPW.out)).trans HPW.out)
                      have HZD := Lib.hid ((HS0.out.block _ (lt_of_block HZW.out)).trans HZW.out)
                      clear HS0
                      generalize wr.drew = wd at *
                      have x0 := cell_of_row _ _ 0 _ _ _ HRD.out.2.2.1
                      have x1 := cell_of_row _ _ 1 _ _ _ HRD.out.2.2.1
                      simp only [List.getElem?_toArray, List.getElem?_cons_succ, List.getElem?_cons_zero] at x0 x1
                      go_wp2_with fail
                      refine (HCK2.out (some ⟨g, off, none⟩) d2 M wd HRD.out.2.1.1 (by omega)).mono ?_
                      rintro e wc ⟨hbc, a4, c4, rfl, hown4⟩
                      have HRC := Lib.hid (HRD.out.below hbc)
                      have HBC := Lib.hid (Below.step HBD.out hbc)
                      have HPC := Lib.hid ((hbc.block _ (lt_of_block HPD.out)).trans HPD.out)
                      have HZC := Lib.hid ((hbc.block _ (lt_of_block HZD.out)).trans HZD.out)
                      have hw1d : w1.heap.size ≤ wd.heap.size := by have := HRD.out.2.2.2; have := lt_of_block HRD.out.2.2.1; omega
                      have HRS := Lib.hid (HRC.out.row (b2 := a4) (M := M) (d2 := c4) ⟨sat_own1 pkC_length hown4, pb_own (own_mono hown4 hw1d), own_capK hown4⟩)
                      have HBS := Lib.hid (HBC.out.setCell (p := ⟨ob, 1, none⟩) (by have := HRC.out.2.2.2; have := HSZ1.out; show _ ≤ ob; omega) (.slice a4 M.length c4))
                      have HPS2 := Lib.hid ((Below.heap_setCell wc ⟨ob, 1, none⟩ (.slice a4 M.length c4) (w.heap.size + 1) (by have := HRC.out.2.2.2; have := HSZ1.out; show _ ≠ ob; omega)).trans HPC.out)
                      have HZS2 := Lib.hid ((Below.heap_setCell wc ⟨ob, 1, none⟩ (.slice a4 M.length c4) (w.heap.size + 1 + 1) (by have := HRC.out.2.2.2; have := HSZ1.out; show _ ≠ ob; omega)).trans HZC.out)
                      have NB4 : Hid (NB w.heap.size a4) := (nb_own hown4).mono (by have := HSZ1.out; omega)
                      have y1 := cell_of_row _ _ 1 _ _ _ HRC.out.2.2.1
                      have yf := frozen_of_row _ _ 1 _ _ HRC.out.2.2.1
                      simp only [List.getElem?_toArray, List.getElem?_cons_succ, List.getElem?_cons_zero] at y1
                      clear x0 x1 hbc hown4 hw1d
                      go_wp2_with fail
                      clear y1 yf
                      generalize wc.setCell ⟨ob, 1, none⟩ (.slice a4 M.length c4) = ws at *
                      have HNZ : Hid (ob ≠ w.heap.size + 1 + 1) := by have := HRS.out.2.2.2; have := HSZ1.out; show _ ≠ _; omega
                      have hic15 : (Try.prog.info? 28).map (·.size) = some ([.slice b1 GJ.length d1, .slice a4 M.length c4] : List Value).length := HI.out
                      have hu15 := Try.underlying28
                      refine wp_region_noPanic ?_
                      refine wp_region_held_drew (S := fun u => Below w.heap.size w u ∧ (ws.heap.size ≤ u.heap.size ∧ ∀ k, k < ws.heap.size → k ≠ w.heap.size + 1 + 1 → u.heap[k]? = ws.heap[k]?) ∧ RowZ 28 w.heap.size (w.heap.size + 1 + 1) 2 u) (by kernel_rfl) ⟨HBS.out.drew, ⟨Nat.le_refl _, fun _ _ _ => rfl⟩, ⟨by omega, _, HZS2.out, rfl⟩⟩ (fun hS0 => ?_)
                      have HS0 := Lib.hid hS0
                      clear hS0
                      refine take_row 0 (cs := [.slice b1 GJ.length d1, .slice a4 M.length c4]) rfl (by kernel_rfl) (by kernel_rfl) (by kernel_rfl) (fun _ _ _ _ h => h) (by rfl) rfl rfl rfl (fun _ hS => row_rangeG ((hS.2.1.2 ob (lt_of_block HRS.out.2.2.1) HNZ.out).trans HRS.out.2.2.1)) hu15 rfl hic15 HS0.out ?_
                      try simp only [List.set_cons_zero, List.set_cons_succ]
                      refine take_val 1 (.pointer (some ⟨w.heap.size + 1, 1, none⟩)) rfl (by kernel_rfl) (by kernel_rfl) (by kernel_rfl) (fun _ _ _ _ h => h) (by rfl) rfl (fun wz hS => by go_simp) HS0.out ?_
                      try simp only [List.set_cons_zero, List.set_cons_succ]
                      refine take_val 2 (.int .i64 q) rfl (by kernel_rfl) (by kernel_rfl) (by kernel_rfl) (fun _ _ _ _ h => h) (by rfl) rfl (fun wz hS => by have hz := cell_of_row _ _ 1 _ _ _ ((hS.2.1.2 (w.heap.size + 1) (lt_of_block HPS2.out) (by omega)).trans HPS2.out); simp only [List.getElem?_toArray, List.getElem?_cons_zero, List.getElem?_cons_succ] at hz; go_simp) HS0.out ?_
                      try simp only [List.set_cons_zero, List.set_cons_succ]
                      refine take_val 3 (.agg #[.int .i64 2, .int .i64 q, .string ⟨#[]⟩]) rfl (by kernel_rfl) (by kernel_rfl) (by kernel_rfl) (fun _ _ _ _ h => h) (by rfl) rfl (fun wz hS => by go_simp) HS0.out ?_
                      try simp only [List.set_cons_zero, List.set_cons_succ]
                      refine wpAnyH_obls (γ := Nat) [4, 5] (fun kx g w' => (kx = 4 → w'.heap[g]? = some (.cells #[.int .i64 2, .int .i64 q, .string ⟨#[]⟩] 30 (0, 0))) ∧ (kx = 5 → w'.heap[w.heap.size + 1 + 1]? = some (.cells #[.slice b1 GJ.length d1, .slice a4 M.length c4] 28 (0, 0)))) [105, 5, 6] (fun g => [.slice (some ⟨g, 0, none⟩) 1 1, .slice (some ⟨g, 0, none⟩) 1 1, .int .i64 0]) [4, 5, 6, 7] 0 (by kernel_rfl) (by kernel_rfl) (by kernel_rfl) (by kernel_rfl) (by kernel_rfl) (by kernel_rfl) (by decide +kernel) (fun _ _ _ _ h => h) HS0.out ?_ ?_
                      · skip
                        refine .mk _ 105 [5] (by kernel_rfl) rfl rfl (fun g => by kernel_rfl) (fun g u hS hB => ⟨u.heap.size, .slice (some ⟨u.heap.size, 0, none⟩) 1 1, u.alloc (.cells #[.int .i64 2, .int .i64 q, .string ⟨#[]⟩] 30), by simp only [setAll, List.zip_cons_cons, List.zip_nil_right, List.foldl_cons, List.foldl_nil, List.set_cons_zero, List.set_cons_succ]; go_simp, by rfl, ⟨hS.1.alloc hS.1.size _, ⟨Nat.le_trans hS.2.1.1 (by simp), fun k hk hne => (Below.heap_alloc u _ _ (Nat.lt_of_lt_of_le hk hS.2.1.1)).trans (hS.2.1.2 k hk hne)⟩, hS.2.2.below ((Below.refl _ _).alloc (Nat.le_refl _) _)⟩, ⟨fun _ => heap_alloc_new u _, fun e => absurd e (by decide)⟩, fun k hk hne hna hb => ⟨fun e => absurd e hne, fun e => (fun h => (Below.heap_alloc u _ _ (lt_of_block h)).trans h) (hb.2 e)⟩, fun t ht => (show Differ [105, 5] _ _ by simp only [List.zip_cons_cons, List.zip_nil_right]; repeat (first | exact .nil | refine .same ?_ | refine .diff (by decide) ?_)).get _ _ rfl (fun _ _ => rfl) t ht⟩) ?_
                        refine .eff _ rfl rfl (fun g => by kernel_rfl) (fun g u hS hB => by simp only [setAll, List.zip_cons_cons, List.zip_nil_right, List.foldl_cons, List.foldl_nil, List.set_cons_zero, List.set_cons_succ]; exact (st_row (B := w.heap.size) (w0 := w) (b := w.heap.size + 1 + 1) (n := 2) (full := #[.slice b1 GJ.length d1, .slice a4 M.length c4]) rfl rfl rfl hS.1 hS.2.2 rfl HI.out (recv_one _ _ _ _ _ _) rfl) |> Oper.wp_mono (fun a' w' h => ⟨h.1, ⟨h.2.1, ⟨by have h1 := hS.2.1.1; exact Nat.le_trans h1 (st_size h.2.2.2 h.2.2.1), fun k hk hne => (h.2.2.2 k hne).trans (hS.2.1.2 k hk hne)⟩, ⟨hS.2.2.1, _, h.2.2.1, rfl⟩⟩, ⟨fun e => absurd e (by decide), fun _ => h.2.2.1⟩, fun k hk hne hb => ⟨fun e => (h.2.2.2 g (rowz_ne (hb.1 e) hS.2.2 (by decide))).trans (hb.1 e), fun e => absurd e hne⟩⟩)) ?_
                        refine .val _ 5 (fun g => .slice (some ⟨g, 0, none⟩) 1 1) rfl (by decide) rfl (fun g => by kernel_rfl) (fun g u hS hB => by simp only [setAll, List.zip_cons_cons, List.zip_nil_right, List.foldl_cons, List.foldl_nil, List.set_cons_zero, List.set_cons_succ]; go_simp) (fun g => by rfl) ?_
                        refine .val _ 6 (fun g => .int .i64 0) rfl (by decide) rfl (fun g => by kernel_rfl) (fun g u hS hB => by simp only [setAll, List.zip_cons_cons, List.zip_nil_right, List.foldl_cons, List.foldl_nil, List.set_cons_zero, List.set_cons_succ]; go_simp) (fun g => by rfl) ?_
                        exact .nil
                      intro g9 uf hS hB
                      refine NoPanic.normal ?_
                      simp only [setAll, List.zip_cons_cons, List.zip_nil_right, List.foldl_cons, List.foldl_nil, List.set_cons_zero, List.set_cons_succ]
                      have HF4 := Lib.hid ((hB 4 (by decide)).1 rfl)
                      have HF5 := Lib.hid ((hB 5 (by decide)).2 rfl)
                      have HSF := Lib.hid hS
                      clear hS hB HS0
                      go_wp2_with fail
                      have hrow : uf.heap[w.heap.size + 1 + 1]? = some (.cells #[.slice b1 GJ.length d1, .slice a4 M.length c4] 28 (0, 0)) := HF5.out
                      refine bodyPost_ret (results_row_tmp2 (p := 4) (q := 5) (r := 6) (ty := 28) rfl _ _ (w.heap.size + 1 + 1) 28 #[.slice b1 GJ.length d1, .slice a4 M.length c4] (0, 0) _ rfl hrow Try.underlying28 rfl HI.out) rfl ?_
                      have hkk : w.heap.size + 1 + 1 < w1.heap.size := by have := HSZ1.out; omega
                      have hown1 := own_keep (w' := uf) HRS.out.1 fun g cs hg hB => HSF.out.2.1.2 g (lt_of_block hg) (by omega)
                      have hs2 := HRS.out.2.1.1.keep HSF.out.2.1.1 fun ad e => by obtain ⟨hh, cs, hg⟩ := HRS.out.2.1.2.1 ad e; exact HSF.out.2.1.2 _ (lt_of_block hg) (by omega)
                      refine ⟨HSF.out.1, .inr ⟨HOK.out, GJ, M, [(2, q, ⟨#[]⟩)], b1, d1, a4, c4, some ⟨g9, 0, none⟩, 1, rfl, sat_own1 stC_length hown1, hs2, sat_one HF4.out, (nb_own hown1).mono (by omega), NB4.out, .inr ⟨rfl, hq0, hq8.1, hq8.2, rfl, held, j, HLP.out, HDN.out, HGJ.out.symm, HM.out.symm⟩⟩⟩
                  · have m1 : ¬ ((M.length : Int) > 0) := by omega
                    have HDN : Hid (Drain got.length held j) := ⟨hjl, HDR.out, fun h => by have := HMLN.out; omega⟩
                    clear q0 q1
                    go_wp2_with fail
                    refine wp_region_noPanic ?_
                    refine wp_region_held_drew (S := fun u => Below wr.heap.size wr u) (by kernel_rfl) (Below.refl _ _).drew (fun hS0 => ?_)
                    have HS0 := Lib.hid hS0
                    clear hS0
                    refine take_val 0 (.pointer (some ⟨ob, 1, none⟩)) rfl (by kernel_rfl) (by kernel_rfl) (by kernel_rfl) (fun _ _ _ _ h => h) (by rfl) rfl (fun wz hS => by go_simp) HS0.out ?_
                    try simp only [List.set_cons_zero, List.set_cons_succ]
                    refine take_val 1 (.slice b2 M.length d2) rfl (by kernel_rfl) (by kernel_rfl) (by kernel_rfl) (fun _ _ _ _ h => h) (by rfl) rfl (fun wz hS => by have hz := cell_of_row _ _ 1 _ _ _ ((hS.block _ (lt_of_block HSR.out.2.2.1)).trans HSR.out.2.2.1); simp only [List.getElem?_toArray, List.getElem?_cons_zero, List.getElem?_cons_succ] at hz; go_simp) HS0.out ?_
                    try simp only [List.set_cons_zero, List.set_cons_succ]
                    refine take_val 2 (.int .i64 (M.length : Int)) rfl (by kernel_rfl) (by kernel_rfl) (by kernel_rfl) (fun _ _ _ _ h => h) (by rfl) rfl (fun wz hS => by go_simp) HS0.out ?_
                    try simp only [List.set_cons_zero, List.set_cons_succ]
                    refine take_val 3 (.bool false) rfl (by kernel_rfl) (by kernel_rfl) (by kernel_rfl) (fun _ _ _ _ h => h) (by rfl) rfl (fun wz hS => by go_simp) HS0.out ?_
                    try simp only [List.set_cons_zero, List.set_cons_succ]
                    refine take_val 4 (.bool false) rfl (by kernel_rfl) (by kernel_rfl) (by kernel_rfl) (fun _ _ _ _ h => h) (by rfl) rfl (fun wz hS => by go_simp) HS0.out ?_
                    try simp only [List.set_cons_zero, List.set_cons_succ]
                    refine take_not 5 rfl (by kernel_rfl) (by kernel_rfl) (by kernel_rfl) (fun _ _ _ _ h => h) (by rfl) rfl HS0.out ?_
                    try simp only [List.set_cons_zero, List.set_cons_succ]
                    refine take_not 6 rfl (by kernel_rfl) (by kernel_rfl) (by kernel_rfl) (fun _ _ _ _ h => h) (by rfl) rfl HS0.out ?_
                    try simp only [List.set_cons_zero, List.set_cons_succ]
                    refine take_not 7 rfl (by kernel_rfl) (by kernel_rfl) (by kernel_rfl) (fun _ _ _ _ h => h) (by rfl) rfl HS0.out ?_
                    try simp only [List.set_cons_zero, List.set_cons_succ]
                    refine take_not 8 rfl (by kernel_rfl) (by kernel_rfl) (by kernel_rfl) (fun _ _ _ _ h => h) (by rfl) rfl HS0.out ?_
                    try simp only [List.set_cons_zero, List.set_cons_succ]
                    refine take_not 9 rfl (by kernel_rfl) (by kernel_rfl) (by kernel_rfl) (fun _ _ _ _ h => h) (by rfl) rfl HS0.out ?_
                    try simp only [List.set_cons_zero, List.set_cons_succ]
                    refine take_not 10 rfl (by kernel_rfl) (by kernel_rfl) (by kernel_rfl) (fun _ _ _ _ h => h) (by rfl) rfl HS0.out ?_
                    try simp only [List.set_cons_zero, List.set_cons_succ]
                    refine take_not 11 rfl (by kernel_rfl) (by kernel_rfl) (by kernel_rfl) (fun _ _ _ _ h => h) (by rfl) rfl HS0.out ?_
                    try simp only [List.set_cons_zero, List.set_cons_succ]
                    refine take_not 12 rfl (by kernel_rfl) (by kernel_rfl) (by kernel_rfl) (fun _ _ _ _ h => h) (by rfl) rfl HS0.out ?_
                    try simp only [List.set_cons_zero, List.set_cons_succ]
                    refine take_not 13 rfl (by kernel_rfl) (by kernel_rfl) (by kernel_rfl) (fun _ _ _ _ h => h) (by rfl) rfl HS0.out ?_
                    try simp only [List.set_cons_zero, List.set_cons_succ]
                    refine take_val 14 (.bool false) rfl (by kernel_rfl) (by kernel_rfl) (by kernel_rfl) (fun _ _ _ _ h => h) (by rfl) rfl (fun wz hS => by go_simp) HS0.out ?_
                    try simp only [List.set_cons_zero, List.set_cons_succ]
                    refine wpAnyH_done (by kernel_rfl) ?_ _
                    refine NoPanic.normal ?_
                    have HRD := Lib.hid (HSR.out.below HS0.out)
                    have HBD := Lib.hid (Below.step HBW.out HS0.out)
                    have HPD := Lib.hid ((HS0.out.block _ (lt_of_block HPW.out)).trans HPW.out)
                    have HZD := Lib.hid ((HS0.out.block _ (lt_of_block HZW.out)).trans HZW.out)
                    clear HS0
                    generalize wr.drew = wd at *
                    have x0 := cell_of_row _ _ 0 _ _ _ HRD.out.2.2.1
                    have x1 := cell_of_row _ _ 1 _ _ _ HRD.out.2.2.1
                    simp only [List.getElem?_toArray, List.getElem?_cons_succ, List.getElem?_cons_zero] at x0 x1
                    go_wp2_with fail
                    refine (HCK2.out b2 d2 M wd HRD.out.2.1.1 (by omega)).mono ?_
                    rintro e wc ⟨hbc, a4, c4, rfl, hown4⟩
                    have HRC := Lib.hid (HRD.out.below hbc)
                    have HBC := Lib.hid (Below.step HBD.out hbc)
                    have HPC := Lib.hid ((hbc.block _ (lt_of_block HPD.out)).trans HPD.out)
                    have HZC := Lib.hid ((hbc.block _ (lt_of_block HZD.out)).trans HZD.out)
                    have hw1d : w1.heap.size ≤ wd.heap.size := by have := HRD.out.2.2.2; have := lt_of_block HRD.out.2.2.1; omega
                    have HRS := Lib.hid (HRC.out.row (b2 := a4) (M := M) (d2 := c4) ⟨sat_own1 pkC_length hown4, pb_own (own_mono hown4 hw1d), own_capK hown4⟩)
                    have HBS := Lib.hid (HBC.out.setCell (p := ⟨ob, 1, none⟩) (by have := HRC.out.2.2.2; have := HSZ1.out; show _ ≤ ob; omega) (.slice a4 M.length c4))
                    have HPS2 := Lib.hid ((Below.heap_setCell wc ⟨ob, 1, none⟩ (.slice a4 M.length c4) (w.heap.size + 1) (by have := HRC.out.2.2.2; have := HSZ1.out; show _ ≠ ob; omega)).trans HPC.out)
                    have HZS2 := Lib.hid ((Below.heap_setCell wc ⟨ob, 1, none⟩ (.slice a4 M.length c4) (w.heap.size + 1 + 1) (by have := HRC.out.2.2.2; have := HSZ1.out; show _ ≠ ob; omega)).trans HZC.out)
                    have NB4 : Hid (NB w.heap.size a4) := (nb_own hown4).mono (by have := HSZ1.out; omega)
                    have y1 := cell_of_row _ _ 1 _ _ _ HRC.out.2.2.1
                    have yf := frozen_of_row _ _ 1 _ _ HRC.out.2.2.1
                    simp only [List.getElem?_toArray, List.getElem?_cons_succ, List.getElem?_cons_zero] at y1
                    clear x0 x1 hbc hown4 hw1d
                    go_wp2_with fail
                    clear y1 yf
                    generalize wc.setCell ⟨ob, 1, none⟩ (.slice a4 M.length c4) = ws at *
                    have HNZ : Hid (ob ≠ w.heap.size + 1 + 1) := by have := HRS.out.2.2.2; have := HSZ1.out; show _ ≠ _; omega
                    have hic15 : (Try.prog.info? 28).map (·.size) = some ([.slice b1 GJ.length d1, .slice a4 M.length c4] : List Value).length := HI.out
                    have hu15 := Try.underlying28
                    refine wp_region_noPanic ?_
                    refine wp_region_held_drew (S := fun u => Below w.heap.size w u ∧ (ws.heap.size ≤ u.heap.size ∧ ∀ k, k < ws.heap.size → k ≠ w.heap.size + 1 + 1 → u.heap[k]? = ws.heap[k]?) ∧ RowZ 28 w.heap.size (w.heap.size + 1 + 1) 2 u) (by kernel_rfl) ⟨HBS.out.drew, ⟨Nat.le_refl _, fun _ _ _ => rfl⟩, ⟨by omega, _, HZS2.out, rfl⟩⟩ (fun hS0 => ?_)
                    have HS0 := Lib.hid hS0
                    clear hS0
                    refine take_row 0 (cs := [.slice b1 GJ.length d1, .slice a4 M.length c4]) rfl (by kernel_rfl) (by kernel_rfl) (by kernel_rfl) (fun _ _ _ _ h => h) (by rfl) rfl rfl rfl (fun _ hS => row_rangeG ((hS.2.1.2 ob (lt_of_block HRS.out.2.2.1) HNZ.out).trans HRS.out.2.2.1)) hu15 rfl hic15 HS0.out ?_
                    try simp only [List.set_cons_zero, List.set_cons_succ]
                    refine take_val 1 (.pointer (some ⟨w.heap.size + 1, 1, none⟩)) rfl (by kernel_rfl) (by kernel_rfl) (by kernel_rfl) (fun _ _ _ _ h => h) (by rfl) rfl (fun wz hS => by go_simp) HS0.out ?_
                    try simp only [List.set_cons_zero, List.set_cons_succ]
                    refine take_val 2 (.int .i64 q) rfl (by kernel_rfl) (by kernel_rfl) (by kernel_rfl) (fun _ _ _ _ h => h) (by rfl) rfl (fun wz hS => by have hz := cell_of_row _ _ 1 _ _ _ ((hS.2.1.2 (w.heap.size + 1) (lt_of_block HPS2.out) (by omega)).trans HPS2.out); simp only [List.getElem?_toArray, List.getElem?_cons_zero, List.getElem?_cons_succ] at hz; go_simp) HS0.out ?_
                    try simp only [List.set_cons_zero, List.set_cons_succ]
                    refine take_val 3 (.agg #[.int .i64 2, .int .i64 q, .string ⟨#[]⟩]) rfl (by kernel_rfl) (by kernel_rfl) (by kernel_rfl) (fun _ _ _ _ h => h) (by rfl) rfl (fun wz hS => by go_simp) HS0.out ?_
                    try simp only [List.set_cons_zero, List.set_cons_succ]
                    refine wpAnyH_obls (γ := Nat) [4, 5] (fun kx g w' => (kx = 4 → w'.heap[g]? = some (.cells #[.int .i64 2, .int .i64 q, .string ⟨#[]⟩] 30 (0, 0))) ∧ (kx = 5 → w'.heap[w.heap.size + 1 + 1]? = some (.cells #[.slice b1 GJ.length d1, .slice a4 M.length c4] 28 (0, 0)))) [105, 5, 6] (fun g => [.slice (some ⟨g, 0, none⟩) 1 1, .slice (some ⟨g, 0, none⟩) 1 1, .int .i64 0]) [4, 5, 6, 7] 0 (by kernel_rfl) (by kernel_rfl) (by kernel_rfl) (by kernel_rfl) (by kernel_rfl) (by kernel_rfl) (by decide +kernel) (fun _ _ _ _ h => h) HS0.out ?_ ?_
                    · skip
                      refine .mk _ 105 [5] (by kernel_rfl) rfl rfl (fun g => by kernel_rfl) (fun g u hS hB => ⟨u.heap.size, .slice (some ⟨u.heap.size, 0, none⟩) 1 1, u.alloc (.cells #[.int .i64 2, .int .i64 q, .string ⟨#[]⟩] 30), by simp only [setAll, List.zip_cons_cons, List.zip_nil_right, List.foldl_cons, List.foldl_nil, List.set_cons_zero, List.set_cons_succ]; go_simp, by rfl, ⟨hS.1.alloc hS.1.size _, ⟨Nat.le_trans hS.2.1.1 (by simp), fun k hk hne => (Below.heap_alloc u _ _ (Nat.lt_of_lt_of_le hk hS.2.1.1)).trans (hS.2.1.2 k hk hne)⟩, hS.2.2.below ((Below.refl _ _).alloc (Nat.le_refl _) _)⟩, ⟨fun _ => heap_alloc_new u _, fun e => absurd e (by decide)⟩, fun k hk hne hna hb => ⟨fun e => absurd e hne, fun e => (fun h => (Below.heap_alloc u _ _ (lt_of_block h)).trans h) (hb.2 e)⟩, fun t ht => (show Differ [105, 5] _ _ by simp only [List.zip_cons_cons, List.zip_nil_right]; repeat (first | exact .nil | refine .same ?_ | refine .diff (by decide) ?_)).get _ _ rfl (fun _ _ => rfl) t ht⟩) ?_
                      refine .eff _ rfl rfl (fun g => by kernel_rfl) (fun g u hS hB => by simp only [setAll, List.zip_cons_cons, List.zip_nil_right, List.foldl_cons, List.foldl_nil, List.set_cons_zero, List.set_cons_succ]; exact (st_row (B := w.heap.size) (w0 := w) (b := w.heap.size + 1 + 1) (n := 2) (full := #[.slice b1 GJ.length d1, .slice a4 M.length c4]) rfl rfl rfl hS.1 hS.2.2 rfl HI.out (recv_one _ _ _ _ _ _) rfl) |> Oper.wp_mono (fun a' w' h => ⟨h.1, ⟨h.2.1, ⟨by have h1 := hS.2.1.1; exact Nat.le_trans h1 (st_size h.2.2.2 h.2.2.1), fun k hk hne => (h.2.2.2 k hne).trans (hS.2.1.2 k hk hne)⟩, ⟨hS.2.2.1, _, h.2.2.1, rfl⟩⟩, ⟨fun e => absurd e (by decide), fun _ => h.2.2.1⟩, fun k hk hne hb => ⟨fun e => (h.2.2.2 g (rowz_ne (hb.1 e) hS.2.2 (by decide))).trans (hb.1 e), fun e => absurd e hne⟩⟩)) ?_
                      refine .val _ 5 (fun g => .slice (some ⟨g, 0, none⟩) 1 1) rfl (by decide) rfl (fun g => by kernel_rfl) (fun g u hS hB => by simp only [setAll, List.zip_cons_cons, List.zip_nil_right, List.foldl_cons, List.foldl_nil, List.set_cons_zero, List.set_cons_succ]; go_simp) (fun g => by rfl) ?_
                      refine .val _ 6 (fun g => .int .i64 0) rfl (by decide) rfl (fun g => by kernel_rfl) (fun g u hS hB => by simp only [setAll, List.zip_cons_cons, List.zip_nil_right, List.foldl_cons, List.foldl_nil, List.set_cons_zero, List.set_cons_succ]; go_simp) (fun g => by rfl) ?_
                      exact .nil
                    intro g9 uf hS hB
                    refine NoPanic.normal ?_
                    simp only [setAll, List.zip_cons_cons, List.zip_nil_right, List.foldl_cons, List.foldl_nil, List.set_cons_zero, List.set_cons_succ]
                    have HF4 := Lib.hid ((hB 4 (by decide)).1 rfl)
                    have HF5 := Lib.hid ((hB 5 (by decide)).2 rfl)
                    have HSF := Lib.hid hS
                    clear hS hB HS0
                    go_wp2_with fail
                    have hrow : uf.heap[w.heap.size + 1 + 1]? = some (.cells #[.slice b1 GJ.length d1, .slice a4 M.length c4] 28 (0, 0)) := HF5.out
                    refine bodyPost_ret (results_row_tmp2 (p := 4) (q := 5) (r := 6) (ty := 28) rfl _ _ (w.heap.size + 1 + 1) 28 #[.slice b1 GJ.length d1, .slice a4 M.length c4] (0, 0) _ rfl hrow Try.underlying28 rfl HI.out) rfl ?_
                    have hkk : w.heap.size + 1 + 1 < w1.heap.size := by have := HSZ1.out; omega
                    have hown1 := own_keep (w' := uf) HRS.out.1 fun g cs hg hB => HSF.out.2.1.2 g (lt_of_block hg) (by omega)
                    have hs2 := HRS.out.2.1.1.keep HSF.out.2.1.1 fun ad e => by obtain ⟨hh, cs, hg⟩ := HRS.out.2.1.2.1 ad e; exact HSF.out.2.1.2 _ (lt_of_block hg) (by omega)
                    refine ⟨HSF.out.1, .inr ⟨HOK.out, GJ, M, [(2, q, ⟨#[]⟩)], b1, d1, a4, c4, some ⟨g9, 0, none⟩, 1, rfl, sat_own1 stC_length hown1, hs2, sat_one HF4.out, (nb_own hown1).mono (by omega), NB4.out, .inr ⟨rfl, hq0, hq8.1, hq8.2, rfl, held, j, HLP.out, HDN.out, HGJ.out.symm, HM.out.symm⟩⟩⟩
        · have g2 : q ≥ min ((got.length : Int) + 8) 2000 := by omega
          have HNW : Hid (¬ ((1 : Int) = 1 ∧ 0 ≤ q ∧ q < (got.length : Int) + 8 ∧ q < 2000)) := fun h => hq8 ⟨h.2.2.1, h.2.2.2⟩
          have HTH : Hid (World.there u (w.heap.size + 1 + 1) 0 (#[.slice a1 got.length c1, .slice a2 held.length c2] : Array Value).size) := there_row (cs := #[.slice none 0 0, .slice none 0 0]) HU2.out
          have HON := Lib.hid (recv_one a1 got.length c1 a2 held.length c2)
          have HIN : Hid ((Try.prog.info? 28).map (·.size) = some (#[.slice a1 got.length c1, .slice a2 held.length c2] : Array Value).size) := HI.out
          go_wp2_with (with_reducible refine wpList_store_mid rfl 28 (.tmp 4) (.tmp 44) rfl (w.heap.size + 1 + 1) 0 #[.slice a1 got.length c1, .slice a2 held.length c2] rfl rfl HTH.out HIN.out HON.out ?_)
          have hk1 : w.heap.size + 1 + 1 < w1.heap.size := by have := HSZ1.out; omega
          have hown1 := own_keep (w' := u.setCells (w.heap.size + 1 + 1) 0 [.slice a1 got.length c1, .slice a2 held.length c2]) HST.out.1 fun g cs hg hB => heap_setCells_other _ _ (by omega) _ _ _
          have hown2 := own_keep (w' := u.setCells (w.heap.size + 1 + 1) 0 [.slice a1 got.length c1, .slice a2 held.length c2]) HOWK.out fun g cs hg hB => heap_setCells_other _ _ (by omega) _ _ _
          refine bodyPost_ret (results_row_tmp2 (p := 4) (q := 5) (r := 6) (ty := 28) rfl _ _ (w.heap.size + 1 + 1) 28 #[.slice a1 got.length c1, .slice a2 held.length c2] (0, 0) _ rfl (setCells_full HU2.out #[.slice a1 got.length c1, .slice a2 held.length c2] rfl) Try.underlying28 rfl HIN.out) rfl ?_
          exact ⟨below_setCells (by omega) _ _ HBU.out, .inr ⟨HOK.out, got, held, [], a1, c1, a2, c2, none, 0, rfl, sat_own1 stC_length hown1, sat_own1 pkC_length hown2, SAt.nil, (nb_own hown1).mono (by omega), (nb_own hown2).mono (by omega), .inl ⟨by have h := HNW.out; simpa using h, rfl, rfl, rfl⟩⟩⟩
      · have g1 : q < 0 := by omega
        have HNW : Hid (¬ ((1 : Int) = 1 ∧ 0 ≤ q ∧ q < (got.length : Int) + 8 ∧ q < 2000)) := fun h => hq0 h.2.1
        have HTH : Hid (World.there u (w.heap.size + 1 + 1) 0 (#[.slice a1 got.length c1, .slice a2 held.length c2] : Array Value).size) := there_row (cs := #[.slice none 0 0, .slice none 0 0]) HU2.out
        have HON := Lib.hid (recv_one a1 got.length c1 a2 held.length c2)
        have HIN : Hid ((Try.prog.info? 28).map (·.size) = some (#[.slice a1 got.length c1, .slice a2 held.length c2] : Array Value).size) := HI.out
        go_wp2_with (with_reducible refine wpList_store_mid rfl 28 (.tmp 4) (.tmp 44) rfl (w.heap.size + 1 + 1) 0 #[.slice a1 got.length c1, .slice a2 held.length c2] rfl rfl HTH.out HIN.out HON.out ?_)
        have hk1 : w.heap.size + 1 + 1 < w1.heap.size := by have := HSZ1.out; omega
        have hown1 := own_keep (w' := u.setCells (w.heap.size + 1 + 1) 0 [.slice a1 got.length c1, .slice a2 held.length c2]) HST.out.1 fun g cs hg hB => heap_setCells_other _ _ (by omega) _ _ _
        have hown2 := own_keep (w' := u.setCells (w.heap.size + 1 + 1) 0 [.slice a1 got.length c1, .slice a2 held.length c2]) HOWK.out fun g cs hg hB => heap_setCells_other _ _ (by omega) _ _ _
        refine bodyPost_ret (results_row_tmp2 (p := 4) (q := 5) (r := 6) (ty := 28) rfl _ _ (w.heap.size + 1 + 1) 28 #[.slice a1 got.length c1, .slice a2 held.length c2] (0, 0) _ rfl (setCells_full HU2.out #[.slice a1 got.length c1, .slice a2 held.length c2] rfl) Try.underlying28 rfl HIN.out) rfl ?_
        exact ⟨below_setCells (by omega) _ _ HBU.out, .inr ⟨HOK.out, got, held, [], a1, c1, a2, c2, none, 0, rfl, sat_own1 stC_length hown1, sat_own1 pkC_length hown2, SAt.nil, (nb_own hown1).mono (by omega), (nb_own hown2).mono (by omega), .inl ⟨by have h := HNW.out; simpa using h, rfl, rfl, rfl⟩⟩⟩
    · have g1 : (k != 1) = true := by simpa using hk
      have HNW : Hid (¬ (k = 1 ∧ 0 ≤ q ∧ q < (got.length : Int) + 8 ∧ q < 2000)) := fun h => hk h.1
      have HTH : Hid (World.there u (w.heap.size + 1 + 1) 0 (#[.slice a1 got.length c1, .slice a2 held.length c2] : Array Value).size) := there_row (cs := #[.slice none 0 0, .slice none 0 0]) HU2.out
      have HON := Lib.hid (recv_one a1 got.length c1 a2 held.length c2)
      have HIN : Hid ((Try.prog.info? 28).map (·.size) = some (#[.slice a1 got.length c1, .slice a2 held.length c2] : Array Value).size) := HI.out
      go_wp2_with (with_reducible refine wpList_store_mid rfl 28 (.tmp 4) (.tmp 44) rfl (w.heap.size + 1 + 1) 0 #[.slice a1 got.length c1, .slice a2 held.length c2] rfl rfl HTH.out HIN.out HON.out ?_)
      have hk1 : w.heap.size + 1 + 1 < w1.heap.size := by have := HSZ1.out; omega
      have hown1 := own_keep (w' := u.setCells (w.heap.size + 1 + 1) 0 [.slice a1 got.length c1, .slice a2 held.length c2]) HST.out.1 fun g cs hg hB => heap_setCells_other _ _ (by omega) _ _ _
      have hown2 := own_keep (w' := u.setCells (w.heap.size + 1 + 1) 0 [.slice a1 got.length c1, .slice a2 held.length c2]) HOWK.out fun g cs hg hB => heap_setCells_other _ _ (by omega) _ _ _
      refine bodyPost_ret (results_row_tmp2 (p := 4) (q := 5) (r := 6) (ty := 28) rfl _ _ (w.heap.size + 1 + 1) 28 #[.slice a1 got.length c1, .slice a2 held.length c2] (0, 0) _ rfl (setCells_full HU2.out #[.slice a1 got.length c1, .slice a2 held.length c2] rfl) Try.underlying28 rfl HIN.out) rfl ?_
      exact ⟨below_setCells (by omega) _ _ HBU.out, .inr ⟨HOK.out, got, held, [], a1, c1, a2, c2, none, 0, rfl, sat_own1 stC_length hown1, sat_own1 pkC_length hown2, SAt.nil, (nb_own hown1).mono (by omega), (nb_own hown2).mono (by omega), .inl ⟨by have h := HNW.out; simpa using h, rfl, rfl, rfl⟩⟩⟩
  · have f2 : (((c : Nat) : Int) != 0) = true := by simpa using hc0
    have HN : Hid (¬ ROk got.length held) := fun h => hc0 (hc.2 h)
    have HC0 := Lib.hid hc0
    clear hc hc0
    have HTH : Hid (World.there w1 (w.heap.size + 1 + 1) 0 (#[.slice none 0 0, .slice none 0 0] : Array Value).size) := there_row HQ2.out
    have HON : Hid (((#[.slice none 0 0, .slice none 0 0] : Array Value).all (·.oneCell')) = true) := by show _ = _; kernel_rfl
    have HIZ : Hid ((Try.prog.info? 28).map (·.size) = some (#[.slice none 0 0, .slice none 0 0] : Array Value).size) := HI.out
    go_wp2_with (with_reducible refine wpList_store_mid rfl 28 (.tmp 4) (.tmp 16) rfl (w.heap.size + 1 + 1) 0 #[.slice none 0 0, .slice none 0 0] rfl rfl HTH.out HIZ.out HON.out ?_)
    refine bodyPost_ret (results_row_tmp2 (p := 4) (q := 5) (r := 6) (ty := 28) rfl _ _ (w.heap.size + 1 + 1) 28 #[.slice none 0 0, .slice none 0 0] (0, 0) _ rfl (setCells_full HQ2.out #[.slice none 0 0, .slice none 0 0] rfl) Try.underlying28 rfl HI.out) rfl ?_
    exact ⟨below_setCells (by omega) _ _ HB1.out, .inl ⟨HN.out, c, HC0.out, rfl⟩⟩
end Go.Proofs.Ytinjnclpiiohcaa
