/- Acts that came in; a heap in a variable; the walk of swept. -/
import Derived.Test.YtgoocmocdimnoaaSweepDo
import Derived.Test.YtgoocmocdimnoaaRows
namespace Go.Proofs.Ytgoocmocdimnoaa
open Go.RowKit Plain Go.ChangeShapes Go.WideShapes Go.ChangeAt
set_option linter.unusedVariables false
def acC (a : Ac) : List Value := [.int .i64 a.1, .int .i64 a.2.1, .int .i64 a.2.2]
theorem acC_length (a : Ac) : (acC a).length = 3 := rfl
theorem cells_ac : Try.prog.cellsOf 43 = 3 := by kernel_rfl
theorem read_ac {H : Type} {enc : TypeId × Value → H} {W : World} {base : Nat} {sp : Nat → Bool} {held : Bool} (fuel : Nat) (cs : List Value) (x : DataW H × List MemPlace) (h : DataW.trod enc Try.prog W base sp held fuel 43 cs = some x) : ∃ y : Ac, cs = acC y ∧ True := by
  obtain ⟨hl, hf⟩ := trod_fields Try.underlying43 (by kernel_rfl) cells_ac h
  obtain ⟨u0, m0, y0, e0, t0⟩ := hf 0 _ rfl
  obtain ⟨u1, m1, y1, e1, t1⟩ := hf 1 _ rfl
  obtain ⟨u2, m2, y2, e2, t2⟩ := hf 2 _ rfl
  obtain ⟨a, ha, _, _⟩ := DataW.trod_int Try.underlying3 t0
  obtain ⟨b, hb, _, _⟩ := DataW.trod_int Try.underlying3 t1
  obtain ⟨c, hc, _, _⟩ := DataW.trod_int Try.underlying3 t2
  simp only [List.cons.injEq, and_true] at ha hb hc
  subst ha hb hc
  match cs, hl, e0, e1, e2 with
  | [c0, c1, c2], _, e0, e1, e2 =>
    simp at e0 e1 e2
    subst e0 e1 e2
    exact ⟨(a, b, c), rfl, trivial⟩
set_option maxRecDepth 100000 in
theorem open_acs {H : Type} {enc : TypeId × Value → H} {W : World} {r : Reach} {base b0 : Nat} {sp : Nat → Bool} {held : Bool} {v : Value} {d : DataW H} {p : List MemPlace} (ho : Value.okWide Try.prog W r b0 38 v) (hd : DataW.Trod enc Try.prog W base sp held 38 v d p) :
    ∃ (a : Option Addr) (l : List Ac) (cap : Nat), v = .slice a l.length cap ∧ l.length ≤ 9223372036854775807 ∧ SAt 3 acC W a l := by
  obtain ⟨a, l, cap, hv, h1, h2, _, h4, _⟩ := SAt.open_ (n := 3) (c := acC) (fun _ => True) Try.underlying38 cells_ac (by decide) acC_length read_ac ho hd
  exact ⟨a, l, cap, hv, Nat.le_trans h1 h2, h4⟩
/-- a heap that may be read -/
def HRd (w : World) (v : Value) (h : Hp) : Prop := ∃ ta tc rows ra rc, v = .agg #[.slice ta rows.length tc, .slice ra h.2.1.length rc, .bool h.2.2] ∧ TAt w ta rows ∧ rows.length ≤ 9223372036854775807 ∧ SAt 1 iC w ra h.2.1 ∧ h.2.1.length ≤ 9223372036854775807 ∧ tK rows = h.1
/-- a heap in a variable -/
def HVar (w : World) (b : Nat) (h : Hp) : Prop := ∃ ta tc rows ra rc, w.heap[b]? = some (.cells #[.slice ta rows.length tc, .slice ra h.2.1.length rc, .bool h.2.2] 41 (0, 0)) ∧ TAt w ta rows ∧ rows.length ≤ 9223372036854775807 ∧ SAt 1 iC w ra h.2.1 ∧ h.2.1.length ≤ 9223372036854775807 ∧ tK rows = h.1
theorem HVar.lt {w : World} {b : Nat} {h : Hp} (x : HVar w b h) : b < w.heap.size := by
  obtain ⟨_, _, _, _, _, hr, _⟩ := x
  exact lt_of_block hr
theorem HVar.below {w w' : World} {b : Nat} {h : Hp} (x : HVar w b h) (hb : Below w.heap.size w w') : HVar w' b h := by
  obtain ⟨ta, tc, rows, ra, rc, hr, h1, h2, h3, h4, h5⟩ := x
  exact ⟨ta, tc, rows, ra, rc, (hb.block b (lt_of_block hr)).trans hr, h1.below hb, h2, h3.below hb, h4, h5⟩
/-- what Do gave is laid into a variable -/
theorem OH.var {base H b : Nat} {ta : Option Addr} {tc : Nat} {rows : List TRow} {ra : Option Addr} {rc : Nat} {rs : List Int} {bz : Bool} {w : World} (h : OH base H ta tc rows ra rc rs bz w) {cs : Array Value} (hb : w.heap[b]? = some (.cells cs 41 (0, 0))) (hl : cs.size = 3) (hlt : b < base) :
    HVar (w.setCells b 0 [.slice ta rows.length tc, .slice ra rs.length rc, .bool bz]) b (tK rows, rs, bz) := by
  have hs := h.same (w' := w.setCells b 0 [.slice ta rows.length tc, .slice ra rs.length rc, .bool bz]) (fun k hk => heap_setCells_other b k (by omega) _ _ _)
  have hc := h.caps
  exact ⟨ta, tc, rows, ra, rc, setCells_full hb #[.slice ta rows.length tc, .slice ra rs.length rc, .bool bz] (by rw [hl]; rfl), hs.tat, by omega, hs.roots, by show rs.length ≤ _; omega, rfl⟩
theorem tK_nil : tK [] = [] := rfl
theorem HVar.zero {w : World} {b : Nat} (hb : w.heap[b]? = some (.cells #[.slice none 0 0, .slice none 0 0, .bool false] 41 (0, 0))) : HVar w b ([], [], false) := ⟨none, 0, [], none, 0, hb, ⟨SAt.nil, fun r hr => absurd hr (by simp)⟩, by simp, SAt.nil, by simp, rfl⟩
namespace Plain
theorem inv_zero : Inv ([], [], false) := ⟨⟨by decide, by decide, fun t ht => absurd ht (by simp), fun k hk => absurd hk (by simp)⟩, fun h => Bool.noConfusion h⟩
def sActs : List Ac := [(2, 0, 0), (2, 0, 0), (6, 0, 0), (1, 0, 0), (1, 0, 0), (1, 0, 0)]
def sHeaps : List Hp := [([], [], false), ([newT], [0], false), ([newT, newT], [0, 1], false), ([newT, newT], [1], false), ([newT, ([], 1, false)], [1], true), ([newT, ([], 2, false)], [1], true), ([([], 0, true), newT], [1], false)]
theorem sStep : ∀ i, i < 6 → Inv (sHeaps.getD i ([], [], false)) ∧ stepF (sHeaps.getD i ([], [], false)) (sActs.getD i (0, 0, 0)) = some (sHeaps.getD (i + 1) ([], [], false)) := by
  have s0 : stepF ([], [], false) (2, 0, 0) = some ([newT], [0], false) := by unfold stepF; rw [if_neg (by decide), if_pos rfl]; rfl
  have s1 : stepF ([newT], [0], false) (2, 0, 0) = some ([newT, newT], [0, 1], false) := by unfold stepF; rw [if_neg (by decide), if_pos rfl]; rfl
  have s2 : stepF ([newT, newT], [0, 1], false) (6, 0, 0) = some ([newT, newT], [1], false) := by unfold stepF; rw [if_neg (by decide), if_neg (by decide), if_neg (by decide), if_neg (by decide), if_neg (by decide), if_pos rfl]; rfl
  have s3 : stepF ([newT, newT], [1], false) (1, 0, 0) = some ([newT, ([], 1, false)], [1], true) := by unfold stepF; rw [if_pos rfl]; rfl
  have s4 : stepF ([newT, ([], 1, false)], [1], true) (1, 0, 0) = some ([newT, ([], 2, false)], [1], true) := by unfold stepF; rw [if_pos rfl]; rfl
  have s5 : stepF ([newT, ([], 2, false)], [1], true) (1, 0, 0) = some ([([], 0, true), newT], [1], false) := by unfold stepF; rw [if_pos rfl]; rfl
  have i1 := (step_inv inv_zero s0).1
  have i2 := (step_inv i1 s1).1
  have i3 := (step_inv i2 s2).1
  have i4 := (step_inv i3 s3).1
  have i5 := (step_inv i4 s4).1
  intro i hi
  match i, hi with
  | 0, _ => exact ⟨inv_zero, s0⟩
  | 1, _ => exact ⟨i1, s1⟩
  | 2, _ => exact ⟨i2, s2⟩
  | 3, _ => exact ⟨i3, s3⟩
  | 4, _ => exact ⟨i4, s4⟩
  | 5, _ => exact ⟨i5, s5⟩
theorem doF_inv {h : Hp} (hi : Inv h) (a : Ac) : doF h a = stepF h a := by unfold doF; rw [if_pos hi.1]
end Plain
set_option maxRecDepth 100000 in
set_option maxHeartbeats 2000000 in
theorem swept_any (w : World) : Calls Try.prog 19 #[] w fun e w' => e = .returned (.bool true) ∧ Below w.heap.size w w' := by
  have HI3 : Hid (∀ a b c : Value, (Try.prog.info? 41).map (·.size) = some (#[a, b, c] : Array Value).size) := fun a b c => by show _ = _; kernel_rfl
  have HON3 : Hid (∀ (a b : Option Addr) (n m c d : Nat) (z : Bool), (#[.slice a n c, .slice b m d, .bool z] : Array Value).all (·.oneCell') = true) := fun a b n m c d z => by simp [Value.oneCell']
  have hZ := heap_alloc_new w (.cells #[.slice none 0 0, .slice none 0 0, .bool false] 41)
  have HBZ : Hid (Below w.heap.size w (w.alloc (.cells #[.slice none 0 0, .slice none 0 0, .bool false] 41))) := (Below.refl w.heap.size w).alloc (Nat.le_refl _) _
  have hA := heap_alloc_new (w.alloc (.cells #[.slice none 0 0, .slice none 0 0, .bool false] 41)) (.cells #[.int .i64 2, .int .i64 0, .int .i64 0, .int .i64 2, .int .i64 0, .int .i64 0, .int .i64 6, .int .i64 0, .int .i64 0, .int .i64 1, .int .i64 0, .int .i64 0, .int .i64 1, .int .i64 0, .int .i64 0, .int .i64 1, .int .i64 0, .int .i64 0] 43)
  rw [World.size_alloc] at hA
  have HV0 : Hid (HVar ((w.alloc (.cells #[.slice none 0 0, .slice none 0 0, .bool false] 41)).alloc (.cells #[.int .i64 2, .int .i64 0, .int .i64 0, .int .i64 2, .int .i64 0, .int .i64 0, .int .i64 6, .int .i64 0, .int .i64 0, .int .i64 1, .int .i64 0, .int .i64 0, .int .i64 1, .int .i64 0, .int .i64 0, .int .i64 1, .int .i64 0, .int .i64 0] 43)) w.heap.size ([], [], false)) := (HVar.zero hZ).below ((Below.refl _ _).alloc (Nat.le_refl _) _)
  have HB0 : Hid (Below w.heap.size w ((w.alloc (.cells #[.slice none 0 0, .slice none 0 0, .bool false] 41)).alloc (.cells #[.int .i64 2, .int .i64 0, .int .i64 0, .int .i64 2, .int .i64 0, .int .i64 0, .int .i64 6, .int .i64 0, .int .i64 0, .int .i64 1, .int .i64 0, .int .i64 0, .int .i64 1, .int .i64 0, .int .i64 0, .int .i64 1, .int .i64 0, .int .i64 0] 43))) := HBZ.out.alloc HBZ.out.size _
  have HAR := Lib.hid hA
  clear hZ hA HBZ
  go_enter Try.func19, Try.ntmps19
  go_wp2_with fail
  generalize (w.alloc (.cells #[.slice none 0 0, .slice none 0 0, .bool false] 41)).alloc (.cells #[.int .i64 2, .int .i64 0, .int .i64 0, .int .i64 2, .int .i64 0, .int .i64 0, .int .i64 6, .int .i64 0, .int .i64 0, .int .i64 1, .int .i64 0, .int .i64 0, .int .i64 1, .int .i64 0, .int .i64 0, .int .i64 1, .int .i64 0, .int .i64 0] 43) = w1 at *
  go_loopw [13] (fun iv wr => ∃ i : Nat, i ≤ 6 ∧ iv = .int .i64 (i : Int) ∧ Below w.heap.size w wr ∧ wr.heap[w.heap.size + 1]? = some (.cells #[.int .i64 2, .int .i64 0, .int .i64 0, .int .i64 2, .int .i64 0, .int .i64 0, .int .i64 6, .int .i64 0, .int .i64 0, .int .i64 1, .int .i64 0, .int .i64 0, .int .i64 1, .int .i64 0, .int .i64 0, .int .i64 1, .int .i64 0, .int .i64 0] 43 (0, 0)) ∧ HVar wr w.heap.size (sHeaps.getD i ([], [], false))) (fun iv _ => 6 - (intOf iv).toNat)
  case atStart => exact ⟨0, by omega, rfl, HB0.out, HAR.out, HV0.out⟩
  case round =>
    obtain ⟨i, hi, rfl, hbr, har, hvr⟩ := hrel
    have HBR := Lib.hid hbr
    have HVR := Lib.hid hvr
    have HAW := Lib.hid har
    clear hbr har hvr
    by_cases hlt : i < 6
    · have m1 : (i : Int) < 6 := by omega
      have m0 : (0 : Int) ≤ (i : Int) := Int.natCast_nonneg _
      have hSA : SAt 3 acC wr (some ⟨w.heap.size + 1, 0, none⟩) sActs := sat_row HAW.out rfl acC_length
      obtain ⟨g, off, e, _, hr⟩ := hSA i hlt
      injection e with e
      injection e with e1 e2
      subst e1 e2
      have c0 := hr 0 _ rfl
      have c1 := hr 1 _ rfl
      have c2 := hr 2 _ rfl
      obtain ⟨hinv, hst⟩ := sStep i hlt
      rw [show sActs.getD i (0, 0, 0) = sActs[i] by rw [List.getD_eq_getElem?_getD, List.getElem?_eq_getElem]; rfl] at hst
      rw [← doF_inv hinv] at hst
      generalize sActs[i] = x at *
      obtain ⟨xk, xf, xt⟩ := x
      simp only [Nat.add_zero, Nat.zero_add] at c0 c1 c2
      have HST := Lib.hid hst
      obtain ⟨ta, tc, rows, ra, rc, hrow, h1, h2, h3, h4, h5⟩ := HVR.out
      generalize sHeaps.getD i ([], [], false) = h at *
      obtain ⟨ts, rs, bz⟩ := h
      simp only at hrow h3 h4 h5 hst
      subst h5
      have hbA : Below wr.heap.size wr (wr.alloc (.cells #[.int .i64 xk, .int .i64 xf, .int .i64 xt] 43)) := (Below.refl _ _).alloc (Nat.le_refl _) _
      have HBA := Lib.hid hbA
      have HROW := Lib.hid ((hbA.block _ (lt_of_block hrow)).trans hrow)
      have HAA := Lib.hid ((hbA.block _ (lt_of_block HAW.out)).trans HAW.out)
      have HWL : Hid (w.heap.size < wr.heap.size) := lt_of_block hrow
      have HDO := Lib.hid (do_any ta tc rows ra rc rs bz xk xf xt _ (h1.below hbA) h2 (h3.below hbA) h4)
      rw [hst] at HDO
      have d0 := cell_of_row _ w.heap.size 0 _ _ _ HROW.out
      have d1 := cell_of_row _ w.heap.size 1 _ _ _ HROW.out
      have d2 := cell_of_row _ w.heap.size 2 _ _ _ HROW.out
      simp only [List.getElem?_toArray, List.getElem?_cons_zero, List.getElem?_cons_succ] at d0 d1 d2
      clear hst hrow hbA h1 h3 hinv hr hSA
      go_wp2_with fail
      refine HDO.out.mono ?_
      rintro e w3 ⟨hb, H, ta2, tc2, rows2, ra2, rc2, rs2, bz2, hoh, hg, rfl⟩
      have hb2 := HBA.out.trans (hb.mono (by simp))
      have HB3 := Lib.hid (HBR.out.trans (hb2.mono HBR.out.size))
      have HR3 := Lib.hid ((hb.block _ (lt_of_block HROW.out)).trans HROW.out)
      have HA3 := Lib.hid ((hb.block _ (lt_of_block HAA.out)).trans HAA.out)
      have HV3 := Lib.hid (hoh.var HR3.out rfl (by have := HWL.out; simp; omega))
      rw [← hg] at HV3
      have HRR : Hid (World.there w3 w.heap.size 0 (#[.slice ta2 rows2.length tc2, .slice ra2 rs2.length rc2, .bool bz2] : Array Value).size) := (by have := there_rowS HR3.out; exact this)
      clear hb hb2 hoh hg d0 d1 d2 c0 c1 c2 HDO
      go_wp2_with (with_reducible refine wpList_store_mid rfl 41 (.tmp 1) (.tmp 21) rfl w.heap.size 0 #[.slice ta2 rows2.length tc2, .slice ra2 rs2.length rc2, .bool bz2] rfl rfl HRR.out (HI3.out _ _ _) (HON3.out _ _ _ _ _ _ _) ?_)
      go_roundw
      case rel => exact ⟨i + 1, by omega, by go_num, below_setCells (Nat.le_refl _) _ _ HB3.out, (heap_setCells_other _ _ (by omega) _ _ _).trans HA3.out, HV3.out⟩
      case measure => simp [intOf]; omega
    · obtain rfl : i = 6 := by omega
      obtain ⟨ta, tc, rows, ra, rc, hrow, h1, h2, h3, h4, h5⟩ := HVR.out
      have b0 := cell_of_row wr w.heap.size 0 _ _ _ hrow
      have b2 := cell_of_row wr w.heap.size 2 _ _ _ hrow
      simp only [List.getElem?_toArray, List.getElem?_cons_zero, List.getElem?_cons_succ] at b0 b2
      have hl : rows.length = 2 := by rw [← tK_length, h5]; rfl
      have e0 := tK_get rows 0 (by omega)
      have e1 := tK_get rows 1 (by omega)
      rw [h5] at e0 e1
      obtain ⟨g, off, rfl, _, _, _, c02⟩ := h1.1.thg 0 (by omega) _ rfl
      obtain ⟨g', off', e, _, _, _, c12⟩ := h1.1.thg 1 (by omega) _ rfl
      injection e with e
      injection e with ea eb
      subst ea eb
      rw [← (Option.some.inj e0)] at c02
      rw [← (Option.some.inj e1)] at c12
      rw [hl] at b0
      simp only [Nat.zero_mul, Nat.add_zero, Nat.one_mul] at c02 c12
      have k0 : wr.cell? ⟨g, off + 2, none⟩ = some (.bool true) := c02
      have k1 : wr.cell? ⟨g, off + 3 + 2, none⟩ = some (.bool false) := c12
      have k1' : wr.cell? ⟨g, off + 5, none⟩ = some (.bool false) := c12
      have b2' : wr.cell? ⟨w.heap.size, 2, none⟩ = some (.bool false) := b2
      clear h1 h3 h4 h5 hrow e0 e1 c02 c12 b2
      go_wp2_with fail
      go_ret
      exact ⟨rfl, HBR.out⟩
end Go.Proofs.Ytgoocmocdimnoaa
