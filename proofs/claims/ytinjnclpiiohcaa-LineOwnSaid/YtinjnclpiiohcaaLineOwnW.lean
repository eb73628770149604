/- LineOwn: its walk. -/
import Derived.Test.YtinjnclpiiohcaaLineSame
namespace Go.Proofs.Ytinjnclpiiohcaa
open Go.RowKit Plain
set_option linter.unusedVariables false
set_option linter.unusedSimpArgs false
attribute [-go_sem] run_eql_struct run_neq_struct run_eqGuard_agg run_equalIn_agg Op.eqFields Program.fieldsOf
/-- a sender in a row of its own -/
structure SndR (B o : Nat) (a1 : Option Addr) (c1 : Nat) (a2 : Option Addr) (c2 : Nat) (T : List ByteArray) (H : List Bool) (b : Int) (w : World) : Prop where
  row : w.heap[o]? = some (.cells #[.slice a1 T.length c1, .slice a2 H.length c2, .int .i64 b] 25 (0, 0))
  s1 : SAt 1 stC w a1 T
  s2 : SAt 1 boC w a2 H
  n1 : NB B a1
  n2 : NB B a2
  no : B ≤ o
theorem SndR.below {B o c1 c2 : Nat} {a1 a2 : Option Addr} {T : List ByteArray} {H : List Bool} {b : Int} {w w' : World} (h : SndR B o a1 c1 a2 c2 T H b w) (hb : Below w.heap.size w w') : SndR B o a1 c1 a2 c2 T H b w' :=
  ⟨(hb.block _ (lt_of_block h.row)).trans h.row, h.s1.below hb, h.s2.below hb, h.n1, h.n2, h.no⟩
theorem SndR.grown {B o c1 c2 g : Nat} {a1 a2 : Option Addr} {T : List ByteArray} {H : List Bool} {b : Int} {w w' : World} (h : SndR B o a1 c1 a2 c2 T H b w) (hg : w.grownBy w' (some g)) (hgB : g < B) : SndR B o a1 c1 a2 c2 T H b w' :=
  ⟨(hg.block _ (lt_of_block h.row) (fun e => by injection e with e; have := h.no; omega)).trans h.row, h.s1.grown hg (h.n1.ne hgB), h.s2.grown hg (h.n2.ne hgB), h.n1, h.n2, h.no⟩
structure RcvR (B o : Nat) (a1 : Option Addr) (c1 : Nat) (a2 : Option Addr) (c2 : Nat) (G : List ByteArray) (M : List PkT) (w : World) : Prop where
  row : w.heap[o]? = some (.cells #[.slice a1 G.length c1, .slice a2 M.length c2] 28 (0, 0))
  s1 : SAt 1 stC w a1 G
  s2 : SAt 3 pkC w a2 M
  n1 : NB B a1
  n2 : NB B a2
  no : B ≤ o
theorem RcvR.below {B o c1 c2 : Nat} {a1 a2 : Option Addr} {G : List ByteArray} {M : List PkT} {w w' : World} (h : RcvR B o a1 c1 a2 c2 G M w) (hb : Below w.heap.size w w') : RcvR B o a1 c1 a2 c2 G M w' :=
  ⟨(hb.block _ (lt_of_block h.row)).trans h.row, h.s1.below hb, h.s2.below hb, h.n1, h.n2, h.no⟩
theorem RcvR.grown {B o c1 c2 g : Nat} {a1 a2 : Option Addr} {G : List ByteArray} {M : List PkT} {w w' : World} (h : RcvR B o a1 c1 a2 c2 G M w) (hg : w.grownBy w' (some g)) (hgB : g < B) : RcvR B o a1 c1 a2 c2 G M w' :=
  ⟨(hg.block _ (lt_of_block h.row) (fun e => by injection e with e; have := h.no; omega)).trans h.row, h.s1.grown hg (h.n1.ne hgB), h.s2.grown hg (h.n2.ne hgB), h.n1, h.n2, h.no⟩
/-- the sender and the receiver that came of ample, and what came in -/
structure LQ (ob3 ob4 g1 g2 g3 g4 s0 : Nat) (T : List ByteArray) (had : List Bool) (b : Int) (got : List ByteArray) (held : List PkT) (p : PkT) (ta ha ga la : Option Addr) (tc hc gc lc : Nat) (w : World) : Prop where
  x : w.heap[ob3]? = some (.cells #[.slice (some ⟨g1, 0, none⟩) T.length (T.length + 3), .slice (some ⟨g2, 0, none⟩) had.length (had.length + 3), .int .i64 b] 25 (0, 0))
  y : w.heap[ob4]? = some (.cells #[.slice (some ⟨g3, 0, none⟩) got.length (got.length + 3), .slice (some ⟨g4, 0, none⟩) held.length (held.length + 3)] 28 (0, 0))
  a1 : Amp stC [.string ⟨#[]⟩] 9 w g1 T ⟨#[63]⟩
  a2 : Amp boC [.bool false] 4 w g2 had true
  a3 : Amp stC [.string ⟨#[]⟩] 9 w g3 got ⟨#[63]⟩
  a4 : Amp pkC (pkC ((0, 0, ⟨#[]⟩) : PkT)) 30 w g4 held p77P
  b0 : w.heap[s0]? = some (.cells #[.slice ta T.length tc, .slice ha had.length hc, .int .i64 b] 25 (0, 0))
  b1 : w.heap[s0 + 1]? = some (.cells #[.slice ga got.length gc, .slice la held.length lc] 28 (0, 0))
  b2 : w.heap[s0 + 2]? = some (.cells (pkC p).toArray 30 (0, 0))
  lt : s0 ≤ g1 ∧ s0 ≤ g2 ∧ s0 ≤ g3 ∧ s0 ≤ g4 ∧ g1 ≠ g3
theorem LQ.below {ob3 ob4 g1 g2 g3 g4 s0 : Nat} {T : List ByteArray} {had : List Bool} {b : Int} {got : List ByteArray} {held : List PkT} {p : PkT} {ta ha ga la : Option Addr} {tc hc gc lc : Nat} {w w' : World} (h : LQ ob3 ob4 g1 g2 g3 g4 s0 T had b got held p ta ha ga la tc hc gc lc w) (hb : Below w.heap.size w w') : LQ ob3 ob4 g1 g2 g3 g4 s0 T had b got held p ta ha ga la tc hc gc lc w' :=
  have f : ∀ {k : Nat} {o : Obj}, w.heap[k]? = some o → w'.heap[k]? = some o := fun h => (hb.block _ (lt_of_block h)).trans h
  ⟨f h.x, f h.y, h.a1.below hb, h.a2.below hb, h.a3.below hb, h.a4.below hb, f h.b0, f h.b1, f h.b2, h.lt⟩
set_option maxRecDepth 100000 in
set_option maxHeartbeats 4000000 in
theorem lineOwn_any (ta ha ga la : Option Addr) (tc hc gc lc : Nat) (T : List ByteArray) (had : List Bool) (b : Int) (got : List ByteArray) (held : List PkT) (p : PkT) (w : World) (hT : SAt 1 stC w ta T) (hH : SAt 1 boC w ha had) (hG : SAt 1 stC w ga got) (hM : SAt 3 pkC w la held)
    (nT : T.length ≤ 8796093021952) (nH : had.length ≤ 140737488351232) (nG : got.length ≤ 8796093021952) (nM : held.length ≤ 4398046511110) :
    Calls Try.prog 3 #[.agg #[.slice ta T.length tc, .slice ha had.length hc, .int .i64 b], .agg #[.slice ga got.length gc, .slice la held.length lc], .agg (pkC p).toArray] w fun e w' => e = .returned (.bool true) ∧ Below w.heap.size w w' := by
  have HT := Lib.hid hT
  have HH := Lib.hid hH
  have HG := Lib.hid hG
  have HM := Lib.hid hM
  have HI : Hid ((Try.prog.info? 25).map (·.size) = some 3) := by show _ = _; kernel_rfl
  have HIR : Hid ((Try.prog.info? 28).map (·.size) = some 2) := by show _ = _; kernel_rfl
  have HAS := Lib.hid fun x cx (lx : List ByteArray) f u h1 h2 => ampleSt_any x cx lx f u h1 h2
  have HAB := Lib.hid fun x cx (lx : List Bool) f u h1 h2 => ampleBo_any x cx lx f u h1 h2
  have HAP := Lib.hid fun x cx (lx : List PkT) u h1 h2 => amplePk_any x cx lx u h1 h2
  clear hT hH hG hM
  obtain ⟨k, q, s⟩ := p
  have HB := Lib.hid ((((Below.refl w.heap.size w).alloc (Nat.le_refl _) (.cells #[.slice ta T.length tc, .slice ha had.length hc, .int .i64 b] 25)).alloc (by simp) (.cells #[.slice ga got.length gc, .slice la held.length lc] 28)).alloc (by simp <;> omega) (.cells #[.int .i64 k, .int .i64 q, .string s] 30))
  have h3 := heap_twoK w (.cells #[.slice ta T.length tc, .slice ha had.length hc, .int .i64 b] 25) (.cells #[.slice ga got.length gc, .slice la held.length lc] 28)
  have HR0 : Hid ((((w.alloc (.cells #[.slice ta T.length tc, .slice ha had.length hc, .int .i64 b] 25)).alloc (.cells #[.slice ga got.length gc, .slice la held.length lc] 28)).alloc (.cells #[.int .i64 k, .int .i64 q, .string s] 30)).heap[w.heap.size]? = some (.cells #[.slice ta T.length tc, .slice ha had.length hc, .int .i64 b] 25 (0, 0))) := by
    show _ = _
    rw [Below.heap_alloc _ _ _ (by simp <;> omega)]
    exact h3.1
  have HR1 : Hid ((((w.alloc (.cells #[.slice ta T.length tc, .slice ha had.length hc, .int .i64 b] 25)).alloc (.cells #[.slice ga got.length gc, .slice la held.length lc] 28)).alloc (.cells #[.int .i64 k, .int .i64 q, .string s] 30)).heap[w.heap.size + 1]? = some (.cells #[.slice ga got.length gc, .slice la held.length lc] 28 (0, 0))) := by
    show _ = _
    rw [Below.heap_alloc _ _ _ (by simp)]
    exact h3.2
  have HR2 : Hid ((((w.alloc (.cells #[.slice ta T.length tc, .slice ha had.length hc, .int .i64 b] 25)).alloc (.cells #[.slice ga got.length gc, .slice la held.length lc] 28)).alloc (.cells #[.int .i64 k, .int .i64 q, .string s] 30)).heap[w.heap.size + 2]? = some (.cells #[.int .i64 k, .int .i64 q, .string s] 30 (0, 0))) := by
    have := heap_alloc_new ((w.alloc (.cells #[.slice ta T.length tc, .slice ha had.length hc, .int .i64 b] 25)).alloc (.cells #[.slice ga got.length gc, .slice la held.length lc] 28)) (.cells #[.int .i64 k, .int .i64 q, .string s] 30)
    show _ = _
    simpa using this
  have HSZ3 : Hid ((((w.alloc (.cells #[.slice ta T.length tc, .slice ha had.length hc, .int .i64 b] 25)).alloc (.cells #[.slice ga got.length gc, .slice la held.length lc] 28)).alloc (.cells #[.int .i64 k, .int .i64 q, .string s] 30)).heap.size = w.heap.size + 3) := by show _ = _; simp
  clear h3
  simp only [pkC] at HR2 HB ⊢
  go_enter Try.func3, Try.ntmps3
  go_wp2_with fail
  refine (lined_any _).mono ?_
  rintro e w1 ⟨rfl, hb1⟩
  have HB1 := Lib.hid (Below.next HB.out hb1 (by simp <;> omega))
  have HQ0 := Lib.hid ((hb1.block _ (lt_of_block HR0.out)).trans HR0.out)
  have HQ1 := Lib.hid ((hb1.block _ (lt_of_block HR1.out)).trans HR1.out)
  have HQ2 := Lib.hid ((hb1.block _ (lt_of_block HR2.out)).trans HR2.out)
  have HSZ1 : Hid (w.heap.size + 3 ≤ w1.heap.size) := by have := hb1.size; rw [HSZ3.out] at this; exact this
  clear hb1 HR0 HR1 HR2 HB HSZ3
  go_wp2_with fail
  refine wp_region_noPanic ?_
  refine wp_region_held_drew (S := fun v => Below w1.heap.size w1 v) (by kernel_rfl) (Below.refl _ _).drew (fun hS0 => ?_)
  have HS0 := Lib.hid hS0
  clear hS0
  refine take_val 0 (.pointer (some ⟨w.heap.size, 0, none⟩)) rfl (by kernel_rfl) (by kernel_rfl) (by kernel_rfl) (fun _ _ _ _ h => h) (by rfl) rfl (fun wz hS => by go_simp) HS0.out ?_
  try simp only [List.set_cons_zero, List.set_cons_succ]
  refine take_val 1 (.slice ta T.length tc) rfl (by kernel_rfl) (by kernel_rfl) (by kernel_rfl) (fun _ _ _ _ h => h) (by rfl) rfl (fun wz hS => by have hz := cell_of_row _ _ 0 _ _ _ ((hS.block _ (lt_of_block HQ0.out)).trans HQ0.out); simp only [List.getElem?_toArray, List.getElem?_cons_zero, List.getElem?_cons_succ] at hz; go_simp) HS0.out ?_
  try simp only [List.set_cons_zero, List.set_cons_succ]
  refine take_val 3 (.pointer (some ⟨w.heap.size, 1, none⟩)) rfl (by kernel_rfl) (by kernel_rfl) (by kernel_rfl) (fun _ _ _ _ h => h) (by rfl) rfl (fun wz hS => by go_simp) HS0.out ?_
  try simp only [List.set_cons_zero, List.set_cons_succ]
  refine take_val 4 (.slice ha had.length hc) rfl (by kernel_rfl) (by kernel_rfl) (by kernel_rfl) (fun _ _ _ _ h => h) (by rfl) rfl (fun wz hS => by have hz := cell_of_row _ _ 1 _ _ _ ((hS.block _ (lt_of_block HQ0.out)).trans HQ0.out); simp only [List.getElem?_toArray, List.getElem?_cons_zero, List.getElem?_cons_succ] at hz; go_simp) HS0.out ?_
  try simp only [List.set_cons_zero, List.set_cons_succ]
  refine take_val 6 (.pointer (some ⟨w.heap.size, 2, none⟩)) rfl (by kernel_rfl) (by kernel_rfl) (by kernel_rfl) (fun _ _ _ _ h => h) (by rfl) rfl (fun wz hS => by go_simp) HS0.out ?_
  try simp only [List.set_cons_zero, List.set_cons_succ]
  refine take_val 7 (.int .i64 b) rfl (by kernel_rfl) (by kernel_rfl) (by kernel_rfl) (fun _ _ _ _ h => h) (by rfl) rfl (fun wz hS => by have hz := cell_of_row _ _ 2 _ _ _ ((hS.block _ (lt_of_block HQ0.out)).trans HQ0.out); simp only [List.getElem?_toArray, List.getElem?_cons_zero, List.getElem?_cons_succ] at hz; go_simp) HS0.out ?_
  try simp only [List.set_cons_zero, List.set_cons_succ]
  refine wpAnyH_obls (γ := (Nat × Nat × Nat)) [2, 5, 9, 10] (fun kx (g : (Nat × Nat × Nat)) w' => (kx = 2 → Amp stC [.string ⟨#[]⟩] 9 w' g.1 T ⟨#[63]⟩ ∧ w1.heap.size ≤ g.1) ∧ (kx = 5 → Amp boC [.bool false] 4 w' g.2.1 had true ∧ w1.heap.size ≤ g.2.1) ∧ (kx = 9 → RowZ 25 w1.heap.size g.2.2 3 w') ∧ (kx = 10 → w'.heap[g.2.2]? = some (.cells #[.slice (some ⟨g.1, 0, none⟩) T.length (T.length + 3), .slice (some ⟨g.2.1, 0, none⟩) had.length (had.length + 3), .int .i64 b] 25 (0, 0)))) [23, 26, 29, 7] (fun g => [.slice (some ⟨g.1, 0, none⟩) T.length (T.length + 3), .slice (some ⟨g.2.1, 0, none⟩) had.length (had.length + 3), .agg #[.slice (some ⟨g.1, 0, none⟩) T.length (T.length + 3), .slice (some ⟨g.2.1, 0, none⟩) had.length (had.length + 3), .int .i64 b], .pointer (some ⟨g.2.2, 0, none⟩)]) [2, 5, 8, 9, 10] (0, 0, 0) (by kernel_rfl) (by kernel_rfl) (by kernel_rfl) (by kernel_rfl) (by kernel_rfl) (by kernel_rfl) (by decide +kernel) (fun _ _ _ _ h => h) HS0.out ?_ ?_
  · skip
    refine .callM _ 23 [29] _ _ (by kernel_rfl) rfl rfl (fun g => by kernel_rfl) (fun g u hS => by simp only [setAll, List.zip_cons_cons, List.zip_nil_right, List.foldl_cons, List.foldl_nil, List.set_cons_zero, List.set_cons_succ]; go_simp) (fun g u hS hB => ((HAS.out ta tc T ⟨#[63]⟩ u (HT.out.below (Below.step HB1.out hS)) nT).mono (fun e w' hcl => ?_))) ?_
    · obtain ⟨x, rfl, hx, hown, hbw⟩ := hcl
      exact ⟨(x, g.2.1, g.2.2), _, rfl, rfl, Below.step hS hbw, ⟨fun _ => ⟨hown, Nat.le_trans hS.size hx⟩, fun e => absurd e (by decide), fun e => absurd e (by decide), fun e => absurd e (by decide)⟩, fun k hk hne hna hb => ⟨fun e => absurd e hne, fun e => ⟨(hb.2.1 e).1.below hbw, (hb.2.1 e).2⟩, fun e => RowZ.below (hb.2.2.1 e) hbw, fun e => by subst e; exact absurd hna (by decide +kernel)⟩, fun t ht => (show Differ [23, 29] _ _ by simp only [List.zip_cons_cons, List.zip_nil_right]; repeat (first | exact .nil | refine .same ?_ | refine .diff (by decide) ?_)).get _ _ rfl (fun _ _ => rfl) t ht⟩
    refine .callM _ 26 [29] _ _ (by kernel_rfl) rfl rfl (fun g => by kernel_rfl) (fun g u hS => by simp only [setAll, List.zip_cons_cons, List.zip_nil_right, List.foldl_cons, List.foldl_nil, List.set_cons_zero, List.set_cons_succ]; go_simp) (fun g u hS hB => ((HAB.out ha hc had true u (HH.out.below (Below.step HB1.out hS)) nH).mono (fun e w' hcl => ?_))) ?_
    · obtain ⟨x, rfl, hx, hown, hbw⟩ := hcl
      exact ⟨(g.1, x, g.2.2), _, rfl, rfl, Below.step hS hbw, ⟨fun e => absurd e (by decide), fun _ => ⟨hown, Nat.le_trans hS.size hx⟩, fun e => absurd e (by decide), fun e => absurd e (by decide)⟩, fun k hk hne hna hb => ⟨fun e => ⟨(hb.1 e).1.below hbw, (hb.1 e).2⟩, fun e => absurd e hne, fun e => RowZ.below (hb.2.2.1 e) hbw, fun e => by subst e; exact absurd hna (by decide +kernel)⟩, fun t ht => (show Differ [26, 29] _ _ by simp only [List.zip_cons_cons, List.zip_nil_right]; repeat (first | exact .nil | refine .same ?_ | refine .diff (by decide) ?_)).get _ _ rfl (fun _ _ => rfl) t ht⟩
    refine .val _ 29 (fun g => .agg #[.slice (some ⟨g.1, 0, none⟩) T.length (T.length + 3), .slice (some ⟨g.2.1, 0, none⟩) had.length (had.length + 3), .int .i64 b]) rfl (by decide) rfl (fun g => by kernel_rfl) (fun g u hS hB => by simp only [setAll, List.zip_cons_cons, List.zip_nil_right, List.foldl_cons, List.foldl_nil, List.set_cons_zero, List.set_cons_succ]; go_simp) (fun g => by rfl) ?_
    refine .mk _ 7 [] (by kernel_rfl) rfl rfl (fun g => by kernel_rfl) (fun g u hS hB => ⟨(g.1, g.2.1, u.heap.size), .pointer (some ⟨u.heap.size, 0, none⟩), u.alloc (.cells #[.slice none 0 0, .slice none 0 0, .int .i64 0] 25), by simp only [setAll, List.zip_cons_cons, List.zip_nil_right, List.foldl_cons, List.foldl_nil, List.set_cons_zero, List.set_cons_succ]; go_simp, by rfl, hS.alloc hS.size _, ⟨fun e => absurd e (by decide), fun e => absurd e (by decide), fun _ => ⟨hS.size, _, heap_alloc_new u _, rfl⟩, fun e => absurd e (by decide)⟩, fun k hk hne hna hb => have hbw : Below u.heap.size u (u.alloc (.cells #[.slice none 0 0, .slice none 0 0, .int .i64 0] 25)) := (Below.refl _ _).alloc (Nat.le_refl _) _; ⟨fun e => ⟨(hb.1 e).1.below hbw, (hb.1 e).2⟩, fun e => ⟨(hb.2.1 e).1.below hbw, (hb.2.1 e).2⟩, fun e => absurd e hne, fun e => by subst e; exact absurd hna (by decide +kernel)⟩, fun t ht => (show Differ [7] _ _ by simp only [List.zip_cons_cons, List.zip_nil_right]; repeat (first | exact .nil | refine .same ?_ | refine .diff (by decide) ?_)).get _ _ rfl (fun _ _ => rfl) t ht⟩) ?_
    refine .eff _ rfl rfl (fun g => by kernel_rfl) (fun g u hS hB => by simp only [setAll, List.zip_cons_cons, List.zip_nil_right, List.foldl_cons, List.foldl_nil, List.set_cons_zero, List.set_cons_succ]; exact (st_row (B := w1.heap.size) (w0 := w1) (b := g.2.2) (n := 3) (full := #[.slice (some ⟨g.1, 0, none⟩) T.length (T.length + 3), .slice (some ⟨g.2.1, 0, none⟩) had.length (had.length + 3), .int .i64 b]) rfl rfl rfl hS ((hB 9 (by decide) (by kernel_rfl)).2.2.1 rfl) rfl HI.out (sender_one _ _ _ _ _ _ _) rfl) |> Oper.wp_mono (fun a' w' h => ⟨h.1, h.2.1, ⟨fun e => absurd e (by decide), fun e => absurd e (by decide), fun e => absurd e (by decide), fun _ => h.2.2.1⟩, fun k hk hne hb => ⟨fun e => ⟨(h.2.2.2 _ (rowz_ne (hb.1 e).1 ((hB 9 (by decide) (by kernel_rfl)).2.2.1 rfl) (by decide))).trans (hb.1 e).1, (hb.1 e).2⟩, fun e => ⟨(h.2.2.2 _ (rowz_ne (hb.2.1 e).1 ((hB 9 (by decide) (by kernel_rfl)).2.2.1 rfl) (by decide))).trans (hb.2.1 e).1, (hb.2.1 e).2⟩, fun e => ⟨(hb.2.2.1 e).1, _, h.2.2.1, rfl⟩, fun e => absurd e hne⟩⟩)) ?_
    exact .nil
  intro gg u3 hS hB
  refine NoPanic.normal ?_
  obtain ⟨g1, g2, ob3⟩ := gg
  simp only [setAll, List.zip_cons_cons, List.zip_nil_right, List.foldl_cons, List.foldl_nil, List.set_cons_zero, List.set_cons_succ]
  have HU2 : Hid (Below w1.heap.size w1 u3) := hS
  have hX : u3.heap[ob3]? = some (.cells #[.slice (some ⟨g1, 0, none⟩) T.length (T.length + 3), .slice (some ⟨g2, 0, none⟩) had.length (had.length + 3), .int .i64 b] 25 (0, 0)) := (hB 10 (by decide)).2.2.2 rfl
  have hA1 := (hB 2 (by decide)).1 rfl
  have hA2 := (hB 5 (by decide)).2.1 rfl
  have hob3 := ((hB 9 (by decide)).2.2.1 rfl).1
  have HX3 := Lib.hid hX
  have HA1 := Lib.hid hA1.1
  have HA2 := Lib.hid hA2.1
  have HG1 := Lib.hid hA1.2
  have HG2 := Lib.hid hA2.2
  have HO3 := Lib.hid hob3
  have HBU := Lib.hid (Below.step HB1.out hS)
  have HU0 := Lib.hid ((hS.block _ (lt_of_block HQ0.out)).trans HQ0.out)
  have HU1 := Lib.hid ((hS.block _ (lt_of_block HQ1.out)).trans HQ1.out)
  have HUP := Lib.hid ((hS.block _ (lt_of_block HQ2.out)).trans HQ2.out)
  clear hS hB HS0 hX hA1 hA2 hob3 HQ0 HQ1 HQ2
  go_wp2_with fail
  refine wp_region_noPanic ?_
  refine wp_region_held_drew (S := fun v => Below u3.heap.size u3 v) (by kernel_rfl) (Below.refl _ _).drew (fun hS0 => ?_)
  have HS0 := Lib.hid hS0
  clear hS0
  refine take_val 0 (.pointer (some ⟨w.heap.size + 1, 0, none⟩)) rfl (by kernel_rfl) (by kernel_rfl) (by kernel_rfl) (fun _ _ _ _ h => h) (by rfl) rfl (fun wz hS => by go_simp) HS0.out ?_
  try simp only [List.set_cons_zero, List.set_cons_succ]
  refine take_val 1 (.slice ga got.length gc) rfl (by kernel_rfl) (by kernel_rfl) (by kernel_rfl) (fun _ _ _ _ h => h) (by rfl) rfl (fun wz hS => by have hz := cell_of_row _ _ 0 _ _ _ ((hS.block _ (lt_of_block HU1.out)).trans HU1.out); simp only [List.getElem?_toArray, List.getElem?_cons_zero, List.getElem?_cons_succ] at hz; go_simp) HS0.out ?_
  try simp only [List.set_cons_zero, List.set_cons_succ]
  refine take_val 3 (.pointer (some ⟨w.heap.size + 1, 1, none⟩)) rfl (by kernel_rfl) (by kernel_rfl) (by kernel_rfl) (fun _ _ _ _ h => h) (by rfl) rfl (fun wz hS => by go_simp) HS0.out ?_
  try simp only [List.set_cons_zero, List.set_cons_succ]
  refine take_val 4 (.slice la held.length lc) rfl (by kernel_rfl) (by kernel_rfl) (by kernel_rfl) (fun _ _ _ _ h => h) (by rfl) rfl (fun wz hS => by have hz := cell_of_row _ _ 1 _ _ _ ((hS.block _ (lt_of_block HU1.out)).trans HU1.out); simp only [List.getElem?_toArray, List.getElem?_cons_zero, List.getElem?_cons_succ] at hz; go_simp) HS0.out ?_
  try simp only [List.set_cons_zero, List.set_cons_succ]
  refine take_val 5 (.agg #[.int .i64 0, .int .i64 77, .string ⟨#[]⟩]) rfl (by kernel_rfl) (by kernel_rfl) (by kernel_rfl) (fun _ _ _ _ h => h) (by rfl) rfl (fun wz hS => by go_simp) HS0.out ?_
  try simp only [List.set_cons_zero, List.set_cons_succ]
  refine wpAnyH_obls (γ := (Nat × Nat × Nat)) [2, 6, 8, 9] (fun kx (g : (Nat × Nat × Nat)) w' => (kx = 2 → Amp stC [.string ⟨#[]⟩] 9 w' g.1 got ⟨#[63]⟩ ∧ u3.heap.size ≤ g.1) ∧ (kx = 6 → Amp pkC (pkC ((0, 0, ⟨#[]⟩) : PkT)) 30 w' g.2.1 held p77P ∧ u3.heap.size ≤ g.2.1) ∧ (kx = 8 → RowZ 28 u3.heap.size g.2.2 2 w') ∧ (kx = 9 → w'.heap[g.2.2]? = some (.cells #[.slice (some ⟨g.1, 0, none⟩) got.length (got.length + 3), .slice (some ⟨g.2.1, 0, none⟩) held.length (held.length + 3)] 28 (0, 0)))) [32, 36, 37, 8] (fun g => [.slice (some ⟨g.1, 0, none⟩) got.length (got.length + 3), .slice (some ⟨g.2.1, 0, none⟩) held.length (held.length + 3), .agg #[.slice (some ⟨g.1, 0, none⟩) got.length (got.length + 3), .slice (some ⟨g.2.1, 0, none⟩) held.length (held.length + 3)], .pointer (some ⟨g.2.2, 0, none⟩)]) [2, 6, 7, 8, 9] (0, 0, 0) (by kernel_rfl) (by kernel_rfl) (by kernel_rfl) (by kernel_rfl) (by kernel_rfl) (by kernel_rfl) (by decide +kernel) (fun _ _ _ _ h => h) HS0.out ?_ ?_
  · skip
    refine .callM _ 32 [37] _ _ (by kernel_rfl) rfl rfl (fun g => by kernel_rfl) (fun g u hS => by simp only [setAll, List.zip_cons_cons, List.zip_nil_right, List.foldl_cons, List.foldl_nil, List.set_cons_zero, List.set_cons_succ]; go_simp) (fun g u hS hB => ((HAS.out ga gc got ⟨#[63]⟩ u (HG.out.below (Below.step HBU.out hS)) nG).mono (fun e w' hcl => ?_))) ?_
    · obtain ⟨x, rfl, hx, hown, hbw⟩ := hcl
      exact ⟨(x, g.2.1, g.2.2), _, rfl, rfl, Below.step hS hbw, ⟨fun _ => ⟨hown, Nat.le_trans hS.size hx⟩, fun e => absurd e (by decide), fun e => absurd e (by decide), fun e => absurd e (by decide)⟩, fun k hk hne hna hb => ⟨fun e => absurd e hne, fun e => ⟨(hb.2.1 e).1.below hbw, (hb.2.1 e).2⟩, fun e => RowZ.below (hb.2.2.1 e) hbw, fun e => by subst e; exact absurd hna (by decide +kernel)⟩, fun t ht => (show Differ [32, 37] _ _ by simp only [List.zip_cons_cons, List.zip_nil_right]; repeat (first | exact .nil | refine .same ?_ | refine .diff (by decide) ?_)).get _ _ rfl (fun _ _ => rfl) t ht⟩
    refine .callM _ 36 [37] _ _ (by kernel_rfl) rfl rfl (fun g => by kernel_rfl) (fun g u hS => by simp only [setAll, List.zip_cons_cons, List.zip_nil_right, List.foldl_cons, List.foldl_nil, List.set_cons_zero, List.set_cons_succ]; go_simp) (fun g u hS hB => ((HAP.out la lc held u (HM.out.below (Below.step HBU.out hS)) nM).mono (fun e w' hcl => ?_))) ?_
    · obtain ⟨x, rfl, hx, hown, hbw⟩ := hcl
      exact ⟨(g.1, x, g.2.2), _, rfl, rfl, Below.step hS hbw, ⟨fun e => absurd e (by decide), fun _ => ⟨hown, Nat.le_trans hS.size hx⟩, fun e => absurd e (by decide), fun e => absurd e (by decide)⟩, fun k hk hne hna hb => ⟨fun e => ⟨(hb.1 e).1.below hbw, (hb.1 e).2⟩, fun e => absurd e hne, fun e => RowZ.below (hb.2.2.1 e) hbw, fun e => by subst e; exact absurd hna (by decide +kernel)⟩, fun t ht => (show Differ [36, 37] _ _ by simp only [List.zip_cons_cons, List.zip_nil_right]; repeat (first | exact .nil | refine .same ?_ | refine .diff (by decide) ?_)).get _ _ rfl (fun _ _ => rfl) t ht⟩
    refine .val _ 37 (fun g => .agg #[.slice (some ⟨g.1, 0, none⟩) got.length (got.length + 3), .slice (some ⟨g.2.1, 0, none⟩) held.length (held.length + 3)]) rfl (by decide) rfl (fun g => by kernel_rfl) (fun g u hS hB => by simp only [setAll, List.zip_cons_cons, List.zip_nil_right, List.foldl_cons, List.foldl_nil, List.set_cons_zero, List.set_cons_succ]; go_simp) (fun g => by rfl) ?_
    refine .mk _ 8 [] (by kernel_rfl) rfl rfl (fun g => by kernel_rfl) (fun g u hS hB => ⟨(g.1, g.2.1, u.heap.size), .pointer (some ⟨u.heap.size, 0, none⟩), u.alloc (.cells #[.slice none 0 0, .slice none 0 0] 28), by simp only [setAll, List.zip_cons_cons, List.zip_nil_right, List.foldl_cons, List.foldl_nil, List.set_cons_zero, List.set_cons_succ]; go_simp, by rfl, hS.alloc hS.size _, ⟨fun e => absurd e (by decide), fun e => absurd e (by decide), fun _ => ⟨hS.size, _, heap_alloc_new u _, rfl⟩, fun e => absurd e (by decide)⟩, fun k hk hne hna hb => have hbw : Below u.heap.size u (u.alloc (.cells #[.slice none 0 0, .slice none 0 0] 28)) := (Below.refl _ _).alloc (Nat.le_refl _) _; ⟨fun e => ⟨(hb.1 e).1.below hbw, (hb.1 e).2⟩, fun e => ⟨(hb.2.1 e).1.below hbw, (hb.2.1 e).2⟩, fun e => absurd e hne, fun e => by subst e; exact absurd hna (by decide +kernel)⟩, fun t ht => (show Differ [8] _ _ by simp only [List.zip_cons_cons, List.zip_nil_right]; repeat (first | exact .nil | refine .same ?_ | refine .diff (by decide) ?_)).get _ _ rfl (fun _ _ => rfl) t ht⟩) ?_
    refine .eff _ rfl rfl (fun g => by kernel_rfl) (fun g u hS hB => by simp only [setAll, List.zip_cons_cons, List.zip_nil_right, List.foldl_cons, List.foldl_nil, List.set_cons_zero, List.set_cons_succ]; exact (st_row (B := u3.heap.size) (w0 := u3) (b := g.2.2) (n := 2) (full := #[.slice (some ⟨g.1, 0, none⟩) got.length (got.length + 3), .slice (some ⟨g.2.1, 0, none⟩) held.length (held.length + 3)]) rfl rfl rfl hS ((hB 8 (by decide) (by kernel_rfl)).2.2.1 rfl) rfl HIR.out (recv_one _ _ _ _ _ _) rfl) |> Oper.wp_mono (fun a' w' h => ⟨h.1, h.2.1, ⟨fun e => absurd e (by decide), fun e => absurd e (by decide), fun e => absurd e (by decide), fun _ => h.2.2.1⟩, fun k hk hne hb => ⟨fun e => ⟨(h.2.2.2 _ (rowz_ne (hb.1 e).1 ((hB 8 (by decide) (by kernel_rfl)).2.2.1 rfl) (by decide))).trans (hb.1 e).1, (hb.1 e).2⟩, fun e => ⟨(h.2.2.2 _ (rowz_ne (hb.2.1 e).1 ((hB 8 (by decide) (by kernel_rfl)).2.2.1 rfl) (by decide))).trans (hb.2.1 e).1, (hb.2.1 e).2⟩, fun e => ⟨(hb.2.2.1 e).1, _, h.2.2.1, rfl⟩, fun e => absurd e hne⟩⟩)) ?_
    exact .nil
  intro gg u4 hS hB
  refine NoPanic.normal ?_
  obtain ⟨g3, g4, ob4⟩ := gg
  simp only [setAll, List.zip_cons_cons, List.zip_nil_right, List.foldl_cons, List.foldl_nil, List.set_cons_zero, List.set_cons_succ]
  have hY : u4.heap[ob4]? = some (.cells #[.slice (some ⟨g3, 0, none⟩) got.length (got.length + 3), .slice (some ⟨g4, 0, none⟩) held.length (held.length + 3)] 28 (0, 0)) := (hB 9 (by decide)).2.2.2 rfl
  have hA3 := (hB 2 (by decide)).1 rfl
  have hA4 := (hB 6 (by decide)).2.1 rfl
  have hob4 := ((hB 8 (by decide)).2.2.1 rfl).1
  have f : ∀ {k : Nat} {o : Obj}, u3.heap[k]? = some o → u4.heap[k]? = some o := fun h => (hS.block _ (lt_of_block h)).trans h
  have HLQ : Hid (LQ ob3 ob4 g1 g2 g3 g4 w.heap.size T had b got held (k, q, s) ta ha ga la tc hc gc lc u4) := by
    have e1 : w1.heap.size ≤ g1 := HG1.out
    have e2 : w1.heap.size ≤ g2 := HG2.out
    have e3 : u3.heap.size ≤ g3 := hA3.2
    have e4 : u3.heap.size ≤ g4 := hA4.2
    have e5 := HO3.out
    have e6 : w1.heap.size ≤ u3.heap.size := HU2.out.size
    have e7 := HSZ1.out
    have e8 : g1 < u3.heap.size := lt_of_block HA1.out
    exact ⟨f HX3.out, hY, HA1.out.below hS, HA2.out.below hS, hA3.1, hA4.1, f HU0.out, f HU1.out, f HUP.out, by omega, by omega, by omega, by omega, by omega⟩
  have HB4 := Lib.hid (Below.step HBU.out hS)
  have HGB : Hid (g1 < u4.heap.size ∧ g2 < u4.heap.size ∧ g3 < u4.heap.size ∧ g4 < u4.heap.size) := ⟨lt_of_block HLQ.out.a1, lt_of_block HLQ.out.a2, lt_of_block HLQ.out.a3, lt_of_block HLQ.out.a4⟩
  obtain ⟨B, hBe⟩ : ∃ B, u4.heap.size = B := ⟨_, rfl⟩
  have HBE := Lib.hid hBe
  rw [hBe] at HGB
  clear hS hB HS0 hY hA3 hA4 hob4 f hBe HX3 HA1 HA2 HG1 HG2 HO3 HU2 HBU HU0 HU1 HUP HSZ1 HAS HAB HAP HB1
  have x0 := cell_of_row _ _ 0 _ _ _ HLQ.out.x
  have x1 := cell_of_row _ _ 1 _ _ _ HLQ.out.x
  have x2 := cell_of_row _ _ 2 _ _ _ HLQ.out.x
  simp only [pkC, List.getElem?_toArray, List.getElem?_cons_succ, List.getElem?_cons_zero] at x0 x1 x2
  go_wp2_with fail
  refine (sends_any (some ⟨g1, 0, none⟩) (some ⟨g2, 0, none⟩) (T.length + 3) (had.length + 3) T had b u4 (HLQ.out.a1.sat stC_length) (HLQ.out.a2.sat boC_length) (by omega) (by omega)).mono ?_
  rintro e w5 ⟨hb5, hr⟩
  obtain ⟨v, rfl⟩ : ∃ v, e = .returned v := by rcases hr with ⟨_, c, _, rfl⟩ | ⟨_, out, a, k, rfl, _⟩ <;> exact ⟨_, rfl⟩
  have HB5 := Lib.hid (Below.step HB4.out hb5)
  have HL5 := Lib.hid (HLQ.out.below hb5)
  have HZ5 : Hid (B ≤ w5.heap.size) := by have h := hb5.size; rw [HBE.out] at h; exact h
  clear x0 x1 x2
  clear hr hb5 HLQ HB4 HBE
  have x0 := cell_of_row _ _ 0 _ _ _ HL5.out.x
  have x1 := cell_of_row _ _ 1 _ _ _ HL5.out.x
  have x2 := cell_of_row _ _ 2 _ _ _ HL5.out.x
  have p0 := cell_of_row _ _ 0 _ _ _ HL5.out.b2
  have p1 := cell_of_row _ _ 1 _ _ _ HL5.out.b2
  have p2 := cell_of_row _ _ 2 _ _ _ HL5.out.b2
  simp only [pkC, List.getElem?_toArray, List.getElem?_cons_succ, List.getElem?_cons_zero] at x0 x1 x2 p0 p1 p2
  go_wp2_with fail
  refine (hearsG_any (some ⟨g1, 0, none⟩) (some ⟨g2, 0, none⟩) (T.length + 3) (had.length + 3) T had b (k, q, s) _ (HL5.out.a1.sat stC_length) (HL5.out.a2.sat boC_length) (by omega) (by omega)).mono ?_
  rintro e w6 ⟨hb, T1, H1, a1a, c1a, a2a, c2a, B1, ea, rfl, s1, s2, n1, n2, l1, l2, hra⟩
  have HA := Lib.hid ((Below.refl w6.heap.size w6).alloc (Nat.le_refl _) (.cells #[.slice a1a T1.length c1a, .slice a2a H1.length c2a, .int .i64 (B1 : Int)] 25))
  have HBX := Lib.hid (Below.step (Below.step HB5.out hb) HA.out)
  have HLX := Lib.hid ((HL5.out.below hb).below HA.out)
  have HZX : Hid (B ≤ (w6.alloc (.cells #[.slice a1a T1.length c1a, .slice a2a H1.length c2a, .int .i64 (B1 : Int)] 25)).heap.size) := Nat.le_trans (Nat.le_trans HZ5.out hb.size) HA.out.size
  have HSX : Hid (SndR B w6.heap.size a1a c1a a2a c2a T1 H1 (B1 : Int) (w6.alloc (.cells #[.slice a1a T1.length c1a, .slice a2a H1.length c2a, .int .i64 (B1 : Int)] 25))) := ⟨heap_alloc_new w6 _, s1.below HA.out, s2.below HA.out, n1.mono HZ5.out, n2.mono HZ5.out, Nat.le_trans HZ5.out hb.size⟩
  have HRa := Lib.hid hra
  have HL1a := Lib.hid l1
  have HL2a := Lib.hid l2
  clear x0 x1 x2 p0 p1 p2
  clear hb s1 s2 n1 n2 l1 l2 HA hra HL5 HB5 HZ5
  have HB6 := HBX
  clear HBX
  have HL6 := HLX
  clear HLX
  have HZ6 := HZX
  clear HZX
  have SA := HSX
  clear HSX
  have y0 := cell_of_row _ _ 0 _ _ _ HL6.out.y
  have y1 := cell_of_row _ _ 1 _ _ _ HL6.out.y
  have p0 := cell_of_row _ _ 0 _ _ _ HL6.out.b2
  have p1 := cell_of_row _ _ 1 _ _ _ HL6.out.b2
  have p2 := cell_of_row _ _ 2 _ _ _ HL6.out.b2
  simp only [pkC, List.getElem?_toArray, List.getElem?_cons_succ, List.getElem?_cons_zero] at y0 y1 p0 p1 p2
  go_wp2_with fail
  refine (takesG_any (some ⟨g3, 0, none⟩) (some ⟨g4, 0, none⟩) (got.length + 3) (held.length + 3) got held (k, q, s) _ (HL6.out.a3.sat stC_length) (HL6.out.a4.sat pkC_length) (by omega) (by omega)).mono ?_
  rintro e w7 ⟨hb, G1, M1, a1b, c1b, a2b, c2b, a3b, n3b, c3b, eb, rfl, s1, s2, n1, n2, l1, l2, hrb⟩
  have HA := Lib.hid ((Below.refl w7.heap.size w7).alloc (Nat.le_refl _) (.cells #[.slice a1b G1.length c1b, .slice a2b M1.length c2b] 28))
  have HBX := Lib.hid (Below.step (Below.step HB6.out hb) HA.out)
  have HLX := Lib.hid ((HL6.out.below hb).below HA.out)
  have HZX : Hid (B ≤ (w7.alloc (.cells #[.slice a1b G1.length c1b, .slice a2b M1.length c2b] 28)).heap.size) := Nat.le_trans (Nat.le_trans HZ6.out hb.size) HA.out.size
  have HSX : Hid (RcvR B w7.heap.size a1b c1b a2b c2b G1 M1 (w7.alloc (.cells #[.slice a1b G1.length c1b, .slice a2b M1.length c2b] 28))) := ⟨heap_alloc_new w7 _, s1.below HA.out, s2.below HA.out, n1.mono HZ6.out, n2.mono HZ6.out, Nat.le_trans HZ6.out hb.size⟩
  have HRb := Lib.hid hrb
  have HL1b := Lib.hid l1
  have HL2b := Lib.hid l2
  have SAX := Lib.hid ((SA.out.below hb).below HA.out)
  clear y0 y1 p0 p1 p2
  clear hb s1 s2 n1 n2 l1 l2 HA hrb HL6 HB6 HZ6 SA
  have HB7 := HBX
  clear HBX
  have HL7 := HLX
  clear HLX
  have HZ7 := HZX
  clear HZX
  have RB := HSX
  clear HSX
  have SA2 := SAX
  clear SAX
  have x0 := cell_of_row _ _ 0 _ _ _ HL7.out.x
  have x1 := cell_of_row _ _ 1 _ _ _ HL7.out.x
  have x2 := cell_of_row _ _ 2 _ _ _ HL7.out.x
  have a0 := cell_of_row _ _ 0 _ _ _ HL7.out.b0
  have a1 := cell_of_row _ _ 1 _ _ _ HL7.out.b0
  have a2 := cell_of_row _ _ 2 _ _ _ HL7.out.b0
  simp only [pkC, List.getElem?_toArray, List.getElem?_cons_succ, List.getElem?_cons_zero] at x0 x1 x2 a0 a1 a2
  go_wp2_with fail
  refine (staysSt_any g1 ta tc T ⟨#[63]⟩ _ HL7.out.a1 (HT.out.below HB7.out) nT).mono ?_
  rintro e w8 ⟨rfl, hb⟩
  have HBX := Lib.hid (Below.step HB7.out hb)
  have HLX := Lib.hid (HL7.out.below hb)
  have HZX := Lib.hid (Nat.le_trans HZ7.out hb.size)
  have SAX := Lib.hid (SA2.out.below hb)
  have RBX := Lib.hid (RB.out.below hb)
  clear x0 x1 x2 a0 a1 a2
  clear hb HL7 HB7 HZ7 SA2 RB
  have HB8 := HBX
  clear HBX
  have HL8 := HLX
  clear HLX
  have HZ8 := HZX
  clear HZX
  have SA8 := SAX
  clear SAX
  have RB8 := RBX
  clear RBX
  have x0 := cell_of_row _ _ 0 _ _ _ HL8.out.x
  have x1 := cell_of_row _ _ 1 _ _ _ HL8.out.x
  have x2 := cell_of_row _ _ 2 _ _ _ HL8.out.x
  have a0 := cell_of_row _ _ 0 _ _ _ HL8.out.b0
  have a1 := cell_of_row _ _ 1 _ _ _ HL8.out.b0
  have a2 := cell_of_row _ _ 2 _ _ _ HL8.out.b0
  simp only [pkC, List.getElem?_toArray, List.getElem?_cons_succ, List.getElem?_cons_zero] at x0 x1 x2 a0 a1 a2
  go_wp2_with fail
  refine (staysBo_any g2 ha hc had true _ HL8.out.a2 (HH.out.below HB8.out) nH).mono ?_
  rintro e w9 ⟨rfl, hb⟩
  have HBX := Lib.hid (Below.step HB8.out hb)
  have HLX := Lib.hid (HL8.out.below hb)
  have HZX := Lib.hid (Nat.le_trans HZ8.out hb.size)
  have SAX := Lib.hid (SA8.out.below hb)
  have RBX := Lib.hid (RB8.out.below hb)
  clear x0 x1 x2 a0 a1 a2
  clear hb HL8 HB8 HZ8 SA8 RB8
  have HB9 := HBX
  clear HBX
  have HL9 := HLX
  clear HLX
  have HZ9 := HZX
  clear HZX
  have SA9 := SAX
  clear SAX
  have RB9 := RBX
  clear RBX
  have y0 := cell_of_row _ _ 0 _ _ _ HL9.out.y
  have y1 := cell_of_row _ _ 1 _ _ _ HL9.out.y
  have d0 := cell_of_row _ _ 0 _ _ _ HL9.out.b1
  have d1 := cell_of_row _ _ 1 _ _ _ HL9.out.b1
  simp only [pkC, List.getElem?_toArray, List.getElem?_cons_succ, List.getElem?_cons_zero] at y0 y1 d0 d1
  go_wp2_with fail
  refine (staysSt_any g3 ga gc got ⟨#[63]⟩ _ HL9.out.a3 (HG.out.below HB9.out) nG).mono ?_
  rintro e w10 ⟨rfl, hb⟩
  have HBX := Lib.hid (Below.step HB9.out hb)
  have HLX := Lib.hid (HL9.out.below hb)
  have HZX := Lib.hid (Nat.le_trans HZ9.out hb.size)
  have SAX := Lib.hid (SA9.out.below hb)
  have RBX := Lib.hid (RB9.out.below hb)
  clear y0 y1 d0 d1
  clear hb HL9 HB9 HZ9 SA9 RB9
  have HB10 := HBX
  clear HBX
  have HL10 := HLX
  clear HLX
  have HZ10 := HZX
  clear HZX
  have SA10 := SAX
  clear SAX
  have RB10 := RBX
  clear RBX
  have y0 := cell_of_row _ _ 0 _ _ _ HL10.out.y
  have y1 := cell_of_row _ _ 1 _ _ _ HL10.out.y
  have d0 := cell_of_row _ _ 0 _ _ _ HL10.out.b1
  have d1 := cell_of_row _ _ 1 _ _ _ HL10.out.b1
  simp only [pkC, List.getElem?_toArray, List.getElem?_cons_succ, List.getElem?_cons_zero] at y0 y1 d0 d1
  go_wp2_with fail
  refine (staysPk_any g4 la lc held _ HL10.out.a4 (HM.out.below HB10.out) nM).mono ?_
  rintro e w11 ⟨rfl, hb⟩
  have HBX := Lib.hid (Below.step HB10.out hb)
  have HLX := Lib.hid (HL10.out.below hb)
  have HZX := Lib.hid (Nat.le_trans HZ10.out hb.size)
  have SAX := Lib.hid (SA10.out.below hb)
  have RBX := Lib.hid (RB10.out.below hb)
  clear y0 y1 d0 d1
  clear hb HL10 HB10 HZ10 SA10 RB10
  have HB11 := HBX
  clear HBX
  have HL11 := HLX
  clear HLX
  have HZ11 := HZX
  clear HZX
  have SA11 := SAX
  clear SAX
  have RB11 := RBX
  clear RBX
  have x0 := cell_of_row _ _ 0 _ _ _ HL11.out.x
  have x1 := cell_of_row _ _ 1 _ _ _ HL11.out.x
  have x2 := cell_of_row _ _ 2 _ _ _ HL11.out.x
  have p0 := cell_of_row _ _ 0 _ _ _ HL11.out.b2
  have p1 := cell_of_row _ _ 1 _ _ _ HL11.out.b2
  have p2 := cell_of_row _ _ 2 _ _ _ HL11.out.b2
  simp only [pkC, List.getElem?_toArray, List.getElem?_cons_succ, List.getElem?_cons_zero] at x0 x1 x2 p0 p1 p2
  go_wp2_with fail
  refine (hearsG_any (some ⟨g1, 0, none⟩) (some ⟨g2, 0, none⟩) (T.length + 3) (had.length + 3) T had b (k, q, s) _ (HL11.out.a1.sat stC_length) (HL11.out.a2.sat boC_length) (by omega) (by omega)).mono ?_
  rintro e w12 ⟨hb, T2, H2, a1c, c1c, a2c, c2c, B2, ec, rfl, s1, s2, n1, n2, l1, l2, hrc⟩
  have HA := Lib.hid ((Below.refl w12.heap.size w12).alloc (Nat.le_refl _) (.cells #[.slice a1c T2.length c1c, .slice a2c H2.length c2c, .int .i64 (B2 : Int)] 25))
  have HBX := Lib.hid (Below.step (Below.step HB11.out hb) HA.out)
  have HLX := Lib.hid ((HL11.out.below hb).below HA.out)
  have HZX : Hid (B ≤ (w12.alloc (.cells #[.slice a1c T2.length c1c, .slice a2c H2.length c2c, .int .i64 (B2 : Int)] 25)).heap.size) := Nat.le_trans (Nat.le_trans HZ11.out hb.size) HA.out.size
  have HSX : Hid (SndR B w12.heap.size a1c c1c a2c c2c T2 H2 (B2 : Int) (w12.alloc (.cells #[.slice a1c T2.length c1c, .slice a2c H2.length c2c, .int .i64 (B2 : Int)] 25))) := ⟨heap_alloc_new w12 _, s1.below HA.out, s2.below HA.out, n1.mono HZ11.out, n2.mono HZ11.out, Nat.le_trans HZ11.out hb.size⟩
  have HRc := Lib.hid hrc
  have HL1c := Lib.hid l1
  have HL2c := Lib.hid l2
  have SA11X := Lib.hid ((SA11.out.below hb).below HA.out)
  have RB11X := Lib.hid ((RB11.out.below hb).below HA.out)
  clear x0 x1 x2 p0 p1 p2
  clear hb s1 s2 n1 n2 l1 l2 HA hrc HL11 HB11 HZ11 SA11 RB11
  obtain ⟨rfl, rfl, rfl⟩ := HRa.out.unique HRc.out
  have HB12 := HBX
  clear HBX
  have HL12 := HLX
  clear HLX
  have HZ12 := HZX
  clear HZX
  have SC := HSX
  clear HSX
  have SA12 := SA11X
  clear SA11X
  have RB12 := RB11X
  clear RB11X
  have y0 := cell_of_row _ _ 0 _ _ _ HL12.out.y
  have y1 := cell_of_row _ _ 1 _ _ _ HL12.out.y
  have p0 := cell_of_row _ _ 0 _ _ _ HL12.out.b2
  have p1 := cell_of_row _ _ 1 _ _ _ HL12.out.b2
  have p2 := cell_of_row _ _ 2 _ _ _ HL12.out.b2
  simp only [pkC, List.getElem?_toArray, List.getElem?_cons_succ, List.getElem?_cons_zero] at y0 y1 p0 p1 p2
  go_wp2_with fail
  refine (takesG_any (some ⟨g3, 0, none⟩) (some ⟨g4, 0, none⟩) (got.length + 3) (held.length + 3) got held (k, q, s) _ (HL12.out.a3.sat stC_length) (HL12.out.a4.sat pkC_length) (by omega) (by omega)).mono ?_
  rintro e w13 ⟨hb, G2, M2, a1d, c1d, a2d, c2d, a3d, n3d, c3d, ed, rfl, s1, s2, n1, n2, l1, l2, hrd⟩
  have HA := Lib.hid ((Below.refl w13.heap.size w13).alloc (Nat.le_refl _) (.cells #[.slice a1d G2.length c1d, .slice a2d M2.length c2d] 28))
  have HBX := Lib.hid (Below.step (Below.step HB12.out hb) HA.out)
  have HLX := Lib.hid ((HL12.out.below hb).below HA.out)
  have HZX : Hid (B ≤ (w13.alloc (.cells #[.slice a1d G2.length c1d, .slice a2d M2.length c2d] 28)).heap.size) := Nat.le_trans (Nat.le_trans HZ12.out hb.size) HA.out.size
  have HSX : Hid (RcvR B w13.heap.size a1d c1d a2d c2d G2 M2 (w13.alloc (.cells #[.slice a1d G2.length c1d, .slice a2d M2.length c2d] 28))) := ⟨heap_alloc_new w13 _, s1.below HA.out, s2.below HA.out, n1.mono HZ12.out, n2.mono HZ12.out, Nat.le_trans HZ12.out hb.size⟩
  have HRd := Lib.hid hrd
  have HL1d := Lib.hid l1
  have HL2d := Lib.hid l2
  have SCX := Lib.hid ((SC.out.below hb).below HA.out)
  have SA12X := Lib.hid ((SA12.out.below hb).below HA.out)
  have RB12X := Lib.hid ((RB12.out.below hb).below HA.out)
  clear y0 y1 p0 p1 p2
  clear hb s1 s2 n1 n2 l1 l2 HA hrd HL12 HB12 HZ12 SC SA12 RB12
  obtain ⟨rfl, rfl⟩ := HRb.out.unique HRd.out
  have HB13 := HBX
  clear HBX
  have HL13 := HLX
  clear HLX
  have HZ13 := HZX
  clear HZX
  have RD := HSX
  clear HSX
  have SC13 := SCX
  clear SCX
  have SA13 := SA12X
  clear SA12X
  have RB13 := RB12X
  clear RB12X
  have HK : Hid (ob3 ≠ g1 ∧ ob3 ≠ g2 ∧ ob3 ≠ g3 ∧ ob3 ≠ g4 ∧ ob4 ≠ g1 ∧ ob4 ≠ g2 ∧ ob4 ≠ g3 ∧ ob4 ≠ g4 ∧ g2 ≠ g1 ∧ g4 ≠ g1 ∧ g3 ≠ g2 ∧ g4 ≠ g2 ∧ g4 ≠ g3 ∧ g3 ≠ g1) :=
    ⟨type_ne HL13.out.x HL13.out.a1 (by decide), type_ne HL13.out.x HL13.out.a2 (by decide), type_ne HL13.out.x HL13.out.a3 (by decide), type_ne HL13.out.x HL13.out.a4 (by decide), type_ne HL13.out.y HL13.out.a1 (by decide), type_ne HL13.out.y HL13.out.a2 (by decide), type_ne HL13.out.y HL13.out.a3 (by decide), type_ne HL13.out.y HL13.out.a4 (by decide), type_ne HL13.out.a2 HL13.out.a1 (by decide), type_ne HL13.out.a4 HL13.out.a1 (by decide), type_ne HL13.out.a3 HL13.out.a2 (by decide), type_ne HL13.out.a4 HL13.out.a2 (by decide), type_ne HL13.out.a4 HL13.out.a3 (by decide), fun e => HL13.out.lt.2.2.2.2 e.symm⟩
  have KX := Lib.hid HL13.out.x
  have KY := Lib.hid HL13.out.y
  have K1 := Lib.hid HL13.out.a1
  have K2 := Lib.hid HL13.out.a2
  have K3 := Lib.hid HL13.out.a3
  have K4 := Lib.hid HL13.out.a4
  have KL := Lib.hid HL13.out.lt
  have KW : Hid (w.heap.size ≤ B) := by have h1 := HGB.out.1; have h2 := KL.out.1; show _ ≤ _; omega
  clear HL13
  have r0 := cell_of_row _ _ 0 _ _ _ KX.out
  have r1 := cell_of_row _ _ 1 _ _ _ KX.out
  have r2 := cell_of_row _ _ 2 _ _ _ KX.out
  simp only [List.getElem?_toArray, List.getElem?_cons_succ, List.getElem?_cons_zero] at r0 r1 r2
  obtain ⟨cs1, hcs, hz⟩ := K1.out.cells stC_length rfl
  rw [Nat.mul_one] at hz
  have HCS := Lib.hid hcs
  have HCZ := Lib.hid hz
  clear hcs hz
  go_wp2_with fail
  refine (spoilSt_any g1 (T.length + 3) T.length ⟨#[33]⟩ _ _ HCS.out HCZ.out (by omega) (by omega)).mono ?_
  rintro e w14 ⟨rfl, hg, _⟩
  have HGR := Lib.hid hg
  have HBX := Lib.hid (below_grown HB13.out hg (Nat.le_trans KW.out HZ13.out) KL.out.1)
  have HZX : Hid (B ≤ w14.heap.size) := Nat.le_trans HZ13.out hg.size
  have KXX := Lib.hid ((hg.block _ (lt_of_block KX.out) (fun e => HK.out.1 (by injection e))).trans KX.out)
  have KYX := Lib.hid ((hg.block _ (lt_of_block KY.out) (fun e => HK.out.2.2.2.2.1 (by injection e))).trans KY.out)
  have K2X := Lib.hid (K2.out.grown hg HK.out.2.2.2.2.2.2.2.2.1)
  have K3X := Lib.hid (K3.out.grown hg HK.out.2.2.2.2.2.2.2.2.2.2.2.2.2)
  have K4X := Lib.hid (K4.out.grown hg HK.out.2.2.2.2.2.2.2.2.2.1)
  have SA13X := Lib.hid (SA13.out.grown hg HGB.out.1)
  have RB13X := Lib.hid (RB13.out.grown hg HGB.out.1)
  have SC13X := Lib.hid (SC13.out.grown hg HGB.out.1)
  have RDX := Lib.hid (RD.out.grown hg HGB.out.1)
  clear hg HGR HCS HCZ r0 r1 r2 HB13 HZ13 SA13 RB13 SC13 RD KX KY K2 K3 K4
  have HB14 := HBX
  clear HBX
  have HZ14 := HZX
  clear HZX
  have SA13 := SA13X
  clear SA13X
  have RB13 := RB13X
  clear RB13X
  have SC13 := SC13X
  clear SC13X
  have RD := RDX
  clear RDX
  have KX := KXX
  clear KXX
  have KY := KYX
  clear KYX
  have K2 := K2X
  clear K2X
  have K3 := K3X
  clear K3X
  have K4 := K4X
  clear K4X
  have r0 := cell_of_row _ _ 0 _ _ _ KX.out
  have r1 := cell_of_row _ _ 1 _ _ _ KX.out
  have r2 := cell_of_row _ _ 2 _ _ _ KX.out
  simp only [List.getElem?_toArray, List.getElem?_cons_succ, List.getElem?_cons_zero] at r0 r1 r2
  obtain ⟨cs2, hcs, hz⟩ := K2.out.cells boC_length rfl
  rw [Nat.mul_one] at hz
  have HCS := Lib.hid hcs
  have HCZ := Lib.hid hz
  clear hcs hz
  go_wp2_with fail
  refine (spoilBo_any g2 (had.length + 3) had.length false _ _ HCS.out HCZ.out (by omega) (by omega)).mono ?_
  rintro e w15 ⟨rfl, hg, _⟩
  have HGR := Lib.hid hg
  have HBX := Lib.hid (below_grown HB14.out hg (Nat.le_trans KW.out HZ14.out) KL.out.2.1)
  have HZX : Hid (B ≤ w15.heap.size) := Nat.le_trans HZ14.out hg.size
  have KXX := Lib.hid ((hg.block _ (lt_of_block KX.out) (fun e => HK.out.2.1 (by injection e))).trans KX.out)
  have KYX := Lib.hid ((hg.block _ (lt_of_block KY.out) (fun e => HK.out.2.2.2.2.2.1 (by injection e))).trans KY.out)
  have K3X := Lib.hid (K3.out.grown hg HK.out.2.2.2.2.2.2.2.2.2.2.1)
  have K4X := Lib.hid (K4.out.grown hg HK.out.2.2.2.2.2.2.2.2.2.2.2.1)
  have SA13X := Lib.hid (SA13.out.grown hg HGB.out.2.1)
  have RB13X := Lib.hid (RB13.out.grown hg HGB.out.2.1)
  have SC13X := Lib.hid (SC13.out.grown hg HGB.out.2.1)
  have RDX := Lib.hid (RD.out.grown hg HGB.out.2.1)
  clear hg HGR HCS HCZ r0 r1 r2 HB14 HZ14 SA13 RB13 SC13 RD KX KY K3 K4
  have HB15 := HBX
  clear HBX
  have HZ15 := HZX
  clear HZX
  have SA13 := SA13X
  clear SA13X
  have RB13 := RB13X
  clear RB13X
  have SC13 := SC13X
  clear SC13X
  have RD := RDX
  clear RDX
  have KX := KXX
  clear KXX
  have KY := KYX
  clear KYX
  have K3 := K3X
  clear K3X
  have K4 := K4X
  clear K4X
  have r0 := cell_of_row _ _ 0 _ _ _ KY.out
  have r1 := cell_of_row _ _ 1 _ _ _ KY.out
  simp only [List.getElem?_toArray, List.getElem?_cons_succ, List.getElem?_cons_zero] at r0 r1
  obtain ⟨cs3, hcs, hz⟩ := K3.out.cells stC_length rfl
  rw [Nat.mul_one] at hz
  have HCS := Lib.hid hcs
  have HCZ := Lib.hid hz
  clear hcs hz
  go_wp2_with fail
  refine (spoilSt_any g3 (got.length + 3) got.length ⟨#[33]⟩ _ _ HCS.out HCZ.out (by omega) (by omega)).mono ?_
  rintro e w16 ⟨rfl, hg, _⟩
  have HGR := Lib.hid hg
  have HBX := Lib.hid (below_grown HB15.out hg (Nat.le_trans KW.out HZ15.out) KL.out.2.2.1)
  have HZX : Hid (B ≤ w16.heap.size) := Nat.le_trans HZ15.out hg.size
  have KYX := Lib.hid ((hg.block _ (lt_of_block KY.out) (fun e => HK.out.2.2.2.2.2.2.1 (by injection e))).trans KY.out)
  have K4X := Lib.hid (K4.out.grown hg HK.out.2.2.2.2.2.2.2.2.2.2.2.2.1)
  have SA13X := Lib.hid (SA13.out.grown hg HGB.out.2.2.1)
  have RB13X := Lib.hid (RB13.out.grown hg HGB.out.2.2.1)
  have SC13X := Lib.hid (SC13.out.grown hg HGB.out.2.2.1)
  have RDX := Lib.hid (RD.out.grown hg HGB.out.2.2.1)
  clear hg HGR HCS HCZ r0 r1 HB15 HZ15 SA13 RB13 SC13 RD KY K4
  have HB16 := HBX
  clear HBX
  have HZ16 := HZX
  clear HZX
  have SA13 := SA13X
  clear SA13X
  have RB13 := RB13X
  clear RB13X
  have SC13 := SC13X
  clear SC13X
  have RD := RDX
  clear RDX
  have KY := KYX
  clear KYX
  have K4 := K4X
  clear K4X
  have r0 := cell_of_row _ _ 0 _ _ _ KY.out
  have r1 := cell_of_row _ _ 1 _ _ _ KY.out
  simp only [List.getElem?_toArray, List.getElem?_cons_succ, List.getElem?_cons_zero] at r0 r1
  obtain ⟨cs4, hcs, hz⟩ := K4.out.cells pkC_length rfl
  have HCS := Lib.hid hcs
  have HCZ := Lib.hid hz
  clear hcs hz
  go_wp2_with fail
  refine (spoilPk_any g4 (held.length + 3) held.length _ _ HCS.out HCZ.out (by omega) (by omega)).mono ?_
  rintro e w17 ⟨rfl, hg, _⟩
  have HGR := Lib.hid hg
  have HBX := Lib.hid (below_grown HB16.out hg (Nat.le_trans KW.out HZ16.out) KL.out.2.2.2.1)
  have HZX : Hid (B ≤ w17.heap.size) := Nat.le_trans HZ16.out hg.size
  have SA13X := Lib.hid (SA13.out.grown hg HGB.out.2.2.2)
  have RB13X := Lib.hid (RB13.out.grown hg HGB.out.2.2.2)
  have SC13X := Lib.hid (SC13.out.grown hg HGB.out.2.2.2)
  have RDX := Lib.hid (RD.out.grown hg HGB.out.2.2.2)
  clear hg HGR HCS HCZ r0 r1 HB16 HZ16 SA13 RB13 SC13 RD
  have HB17 := HBX
  clear HBX
  have HZ17 := HZX
  clear HZX
  have SA13 := SA13X
  clear SA13X
  have RB13 := RB13X
  clear RB13X
  have SC13 := SC13X
  clear SC13X
  have RD := RDX
  clear RDX
  have a0 := cell_of_row _ _ 0 _ _ _ SA13.out.row
  have a1 := cell_of_row _ _ 1 _ _ _ SA13.out.row
  have a2 := cell_of_row _ _ 2 _ _ _ SA13.out.row
  have c0 := cell_of_row _ _ 0 _ _ _ SC13.out.row
  have c1 := cell_of_row _ _ 1 _ _ _ SC13.out.row
  have c2 := cell_of_row _ _ 2 _ _ _ SC13.out.row
  simp only [List.getElem?_toArray, List.getElem?_cons_succ, List.getElem?_cons_zero] at a0 a1 a2 c0 c1 c2
  go_wp2_with fail
  refine (sameSender_any _ _ _ _ _ _ _ _ T1 H1 _ _ SA13.out.s1 SA13.out.s2 SC13.out.s1 SC13.out.s2 HL1a.out HL2a.out).mono ?_
  rintro e w18 ⟨rfl, hb⟩
  have HB18 := Lib.hid (Below.step HB17.out hb)
  have RBX := Lib.hid (RB13.out.below hb)
  have RDX := Lib.hid (RD.out.below hb)
  clear hb a0 a1 a2 c0 c1 c2
  have a0 := cell_of_row _ _ 0 _ _ _ RBX.out.row
  have a1 := cell_of_row _ _ 1 _ _ _ RBX.out.row
  have c0 := cell_of_row _ _ 0 _ _ _ RDX.out.row
  have c1 := cell_of_row _ _ 1 _ _ _ RDX.out.row
  simp only [List.getElem?_toArray, List.getElem?_cons_succ, List.getElem?_cons_zero] at a0 a1 c0 c1
  go_wp2_with fail
  refine (sameReceiver_any _ _ _ _ _ _ _ _ G1 M1 _ RBX.out.s1 RBX.out.s2 RDX.out.s1 RDX.out.s2 HL1b.out HL2b.out).mono ?_
  rintro e w19 ⟨rfl, hb⟩
  have HB19 := Lib.hid (Below.step HB18.out hb)
  clear hb
  go_wp2_with fail
  go_ret
  exact ⟨rfl, HB19.out⟩
end Go.Proofs.Ytinjnclpiiohcaa
