/- The walk of lumkeep's picked: the times that are kept; a policy that came in. -/
import Derived.Test.YthfjonicolhjnaaKeepPick
import Derived.Test.YthfjonicolhjnaaAppend
namespace Go.Proofs.Ythfjonicolhjnaa
open Go.RowKit Plain Go.ChangeShapes Go.WideShapes Go.ChangeAt
theorem pk_snoc : ∀ (l : List Int) (b : List Bool) (t : Int) (x : Bool), b.length = l.length → pk (l ++ [t]) (b ++ [x]) = pk l b ++ (if x = true then [t] else [])
  | [], b, t, x, h => by
    have : b = [] := List.length_eq_zero_iff.1 (by simpa using h)
    subst this
    cases x <;> simp [pk]
  | u :: l, [], t, x, h => by simp at h
  | u :: l, true :: b, t, x, h => by simp only [List.cons_append, pk]; rw [pk_snoc l b t x (by simpa using h)]
  | u :: l, false :: b, t, x, h => by simp only [List.cons_append, pk]; rw [pk_snoc l b t x (by simpa using h)]
theorem pk_step (l : List Int) (b : List Bool) (h : b.length = l.length) (i : Nat) (hi : i < l.length) (hb : i < b.length) : pk (l.take (i + 1)) (b.take (i + 1)) = pk (l.take i) (b.take i) ++ (if b[i] = true then [l[i]] else []) := by
  rw [List.take_succ_eq_append_getElem hi, List.take_succ_eq_append_getElem hb]
  exact pk_snoc _ _ _ _ (by simp [h])
def PkEnd (w0 : World) (l : List Int) (b : List Bool) (e : Ending) (w : World) : Prop := Below w0.heap.size w0 w ∧ ∃ a c, e = .returned (.slice a (pk l b).length c) ∧ SAt 1 iC w a (pk l b)
set_option maxRecDepth 100000 in
theorem picked_any (sa sb : Option Addr) (ca cb : Nat) (l : List Int) (b : List Bool) (w : World) (hs : SAt 1 iC w sa l) (hb : SAt 1 bC w sb b) (hl : b.length = l.length) (h2 : l.length ≤ 200) :
    Calls Try.prog 25 #[.slice sa l.length ca, .slice sb b.length cb] w (PkEnd w l b) := by
  obtain ⟨i0, hi0, hz0, hz1, hz2⟩ := info_parts info_int
  have HSA := Lib.hid hs
  have HSB := Lib.hid hb
  have HL := Lib.hid hl
  have hbl : b.length ≤ 200 := by omega
  clear hs hb hl
  go_enter Try.func25, Try.ntmps25
  go_wp2_with fail
  go_loopw [5, 10] (fun ov iv wr => ∃ (i : Nat) (out : List Int) (oa : Option Addr) (oc : Nat), i ≤ l.length ∧ ov = .slice oa out.length oc ∧ iv = .int .i64 (i : Int) ∧ Hid (wr.ownsRow w.heap.size 3 1 (.slice oa out.length oc) out.length (out.flatMap iC)) ∧ Hid (Below w.heap.size w wr) ∧ Hid (out = pk (l.take i) (b.take i)) ∧ Hid (out.length ≤ 200)) (fun _ iv _ => l.length - (intOf iv).toNat)
  case atStart => exact ⟨0, [], none, 0, by omega, rfl, rfl, Lib.hid (World.ownsRow_nil _ _ _ _), Lib.hid (Below.refl _ _), Lib.hid (by simp [pk]), Lib.hid (by simp)⟩
  case round =>
    obtain ⟨i, out, oa, oc, hi, rfl, rfl, HOWN, HBR, HOUT, HO2⟩ := hrel
    by_cases hlt : i < l.length
    · have hlb : i < b.length := by rw [HL.out]; exact hlt
      have m1 : (i : Int) < (l.length : Int) := by omega
      have m2 : (i : Int) < (b.length : Int) := by omega
      obtain ⟨g, off, rfl, hg, hr⟩ := (HSA.out.below HBR.out).int i hlt
      obtain ⟨g', off', rfl, hg', hr'⟩ := (HSB.out.below HBR.out).bool i hlb
      have HST := Lib.hid (pk_step l b HL.out i hlt hlb)
      rw [← HOUT.out] at HST
      have HN : Hid ((pk (l.take (i + 1)) (b.take (i + 1))).length ≤ 200) := by
        have := pk_len (l.take (i + 1)) (b.take (i + 1))
        rw [List.length_take] at this
        show _ ≤ _
        omega
      clear hg hg'
      generalize b[i] = x at *
      generalize l[i] = t at *
      have hol := HO2.out
      cases x
      · have HE : Hid (out = pk (l.take (i + 1)) (b.take (i + 1))) := by
          show _ = _; rw [HST.out]; simp
        clear HST
        go_wp2_with fail
        go_roundw
        case rel => exact ⟨i + 1, out, oa, oc, by omega, rfl, by go_num, HOWN, HBR, HE, HO2⟩
        case measure => simp [intOf]; omega
      · have HE : Hid (out ++ [t] = pk (l.take (i + 1)) (b.take (i + 1))) := by
          show _ = _; rw [HST.out]; simp
        clear HST
        have D1 := Lib.hid (cells_new_at wr wr.heap.size rfl #[.int .i64 t] 3 [.int .i64 t] rfl)
        have D2 : Hid (∀ u ∈ ([.int .i64 t] : List Value), u.oneCell' = true) := by intro u hu; simp only [List.mem_cons, List.not_mem_nil, or_false] at hu; rcases hu with rfl; rfl
        have D3 : Hid (out.length + 1 ≤ maxLen) := by show _ ≤ _; unfold maxLen; omega
        have D4 : Hid ((out.length + 1) * 8 ≤ 140737488355328) := by show _ ≤ _; omega
        have D5 : Hid (w.heap.size ≤ (wr.alloc (.cells #[.int .i64 t] 3)).heap.size) := by have := HBR.out.size; show _ ≤ _; simp; omega
        go_wp2_with (at_builtin; refine wpList_append_own _ rfl _ _ 49 rfl w.heap.size 3 i0 (.int .i64 0) 1 8 Try.underlying49 hi0 hz0 hz1 hz2 rfl (by decide) _ _ _ rfl (HOWN.out.alloc _) ⟨wr.heap.size, 0, none⟩ 1 1 [.int .i64 t] rfl rfl D1.out D2.out D3.out D4.out D5.out ?_)
        intro v' w2 hown' hgrow _
        have BW := Lib.hid (below_own (HBR.out.alloc HBR.out.size _) hgrow D5.out (HOWN.out.alloc _) (Nat.le_refl _))
        obtain ⟨oa3, oc3, rfl⟩ := own_form hown'
        have OW : Hid (w2.ownsRow w.heap.size 3 1 (.slice oa3 (out ++ [t]).length oc3) (out ++ [t]).length ((out ++ [t]).flatMap iC)) := by
          show w2.ownsRow _ _ _ _ _ _
          rw [List.length_append, List.flatMap_append]
          exact hown'
        have HN2 : Hid ((out ++ [t]).length ≤ 200) := by show _ ≤ _; rw [HE.out]; exact HN.out
        clear hown' hgrow
        go_wp2_with fail
        go_roundw
        case rel => exact ⟨i + 1, out ++ [t], oa3, oc3, by omega, by rw [List.length_append]; rfl, by go_num, OW, BW, HE, HN2⟩
        case measure => simp [intOf]; omega
    · have m1 : ¬ (i : Int) < (l.length : Int) := by omega
      have HE : Hid (out = pk l b) := by
        have := HOUT.out
        rwa [List.take_of_length_le (by omega), List.take_of_length_le (by rw [HL.out]; omega)] at this
      go_wp2_with fail
      go_ret
      obtain ⟨a', c', hv, _, _, hsat⟩ := SAt.own (c := iC) HOWN.out iC_length
      injection hv with e1 e2 e3
      subst e1
      exact ⟨HBR.out, oa, oc, by rw [HE.out]; rfl, by rw [← HE.out]; exact hsat⟩
theorem cells_pol : Try.prog.cellsOf 48 = 5 := by kernel_rfl
set_option maxRecDepth 100000 in
theorem read_pol {H : Type} {enc : TypeId × Value → H} {W : World} {base : Nat} {sp : Nat → Bool} {held : Bool} (fuel : Nat) (cs : List Value) (x : DataW H × List MemPlace) (h : DataW.trod enc Try.prog W base sp held fuel 48 cs = some x) : ∃ a b c d e : Int, cs = [.int .i64 a, .int .i64 b, .int .i64 c, .int .i64 d, .int .i64 e] := by
  obtain ⟨hl, hf⟩ := trod_fields Try.underlying48 (by kernel_rfl) cells_pol h
  obtain ⟨u0, m0, y0, e0, t0⟩ := hf 0 _ rfl
  obtain ⟨u1, m1, y1, e1, t1⟩ := hf 1 _ rfl
  obtain ⟨u2, m2, y2, e2, t2⟩ := hf 2 _ rfl
  obtain ⟨u3, m3, y3, e3, t3⟩ := hf 3 _ rfl
  obtain ⟨u4, m4, y4, e4, t4⟩ := hf 4 _ rfl
  obtain ⟨a, ha, _, _⟩ := DataW.trod_int Try.underlying3 t0
  obtain ⟨b, hb, _, _⟩ := DataW.trod_int Try.underlying3 t1
  obtain ⟨c, hc, _, _⟩ := DataW.trod_int Try.underlying3 t2
  obtain ⟨d, hd, _, _⟩ := DataW.trod_int Try.underlying3 t3
  obtain ⟨e, he, _, _⟩ := DataW.trod_int Try.underlying3 t4
  simp only [List.cons.injEq, and_true] at ha hb hc hd he
  subst ha hb hc hd he
  match cs, hl, e0, e1, e2, e3, e4 with
  | [c0, c1, c2, c3, c4], _, e0, e1, e2, e3, e4 =>
    simp at e0 e1 e2 e3 e4
    subst e0 e1 e2 e3 e4
    exact ⟨a, b, c, d, e, rfl⟩
set_option maxRecDepth 100000 in
theorem open_pol {H : Type} {enc : TypeId × Value → H} {W : World} {r : Reach} {base b0 : Nat} {sp : Nat → Bool} {held : Bool} {v : Value} {d : DataW H} {p : List MemPlace} (ho : Value.okWide Try.prog W r b0 48 v) (hd : DataW.Trod enc Try.prog W base sp held 48 v d p) :
    ∃ a b c d e : Int, v = .agg #[.int .i64 a, .int .i64 b, .int .i64 c, .int .i64 d, .int .i64 e] := by
  obtain ⟨cs, rfl, _⟩ := okWide_struct Try.underlying48 ho
  obtain ⟨fuel, hf⟩ := hd
  obtain ⟨a, b, c, d, e, h⟩ := read_pol _ _ _ hf
  refine ⟨a, b, c, d, e, ?_⟩
  have e2 : cs.toList = [.int .i64 a, .int .i64 b, .int .i64 c, .int .i64 d, .int .i64 e] := h
  rw [← Array.toArray_toList (xs := cs), e2]
theorem pick_g1 : pickL ⟨1, 0, 0, 0, 0⟩ [5] = [true] := by decide +kernel
theorem pick_g2 : pickL ⟨0, 1, 0, 0, 0⟩ [5, 4] = [true, false] := by decide +kernel
theorem pick_g3 : pickL ⟨0, 0, 0, 0, 1⟩ [5, 5] = [true, false] := by decide +kernel
theorem pick_g4 : pickL ⟨0, 0, 0, 0, 2⟩ [2097152, 5] = [true, true] := by decide +kernel
end Go.Proofs.Ythfjonicolhjnaa
