/- Press: the lengths of the codes, read. -/
import Derived.Test.YtbfhhnpoogmlnaaDoorPressNum
import Derived.Test.YtbfhhnpoogmlnaaDoorPressMap
import Derived.Test.YtbfhhnpoogmlnaaDoorHuffCodes
namespace Go.Proofs.YtbfhhnpoogmlnaaDoor
open Go.RowKit Plain
set_option linter.unusedVariables false
set_option linter.unusedSimpArgs false
def ilC (l : List Int) : Array Value := (l.map (Value.int .i64)).toArray
theorem ilC_get (l : List Int) (i : Nat) (h : i < l.length) : (ilC l)[i]? = some (.int .i64 l[i]) := by
  simp [ilC, List.getElem?_toArray, List.getElem?_map, List.getElem?_eq_getElem h]
theorem ilC_set (l : List Int) (i : Nat) (v : Int) : (ilC l).setIfInBounds i (.int .i64 v) = ilC (l.set i v) := by
  simp [ilC, List.map_set]
theorem ilC_zero (n : Nat) : nC (List.replicate n 0) = ilC (List.replicate n 0) := by
  simp [nC, ilC, vN]
theorem sat_il {w : World} {g : Nat} {l : List Int} {T : TypeId} {fr : Nat × Nat} (h : w.heap[g]? = some (.cells (ilC l) T fr)) : SAt 1 iC w (some ⟨g, 0, none⟩) l := fun i hi => by
  refine ⟨g, 0, rfl, lt_of_block h, fun j u hu => ?_⟩
  have hj : j = 0 := by
    rcases Nat.eq_zero_or_pos j with h | h
    · exact h
    · rw [List.getElem?_eq_none (by rw [iC_length]; omega)] at hu; cases hu
  subst hj
  rw [cell_of_row _ _ _ _ _ _ h, show 0 + i * 1 + 0 = i by omega, ilC_get l i hi]
  exact hu
def zLen : List Int := List.replicate 256 0
def LnEnd (w0 : World) (m : Nat) (s : ByteArray) (e : Ending) (w : World) : Prop := Below w0.heap.size w0 w ∧
  (((lnP m (-1) zLen (strN s)).1 ≠ 0 ∧ e = .returned (.tuple #[.slice none 0 0, .string ⟨#[]⟩, .int .i64 ((lnP m (-1) zLen (strN s)).1 : Nat)])) ∨
   ((lnP m (-1) zLen (strN s)).1 = 0 ∧ ∃ g t, e = .returned (.tuple #[.slice (some ⟨g, 0, none⟩) 256 256, .string t, .int .i64 0]) ∧ w0.heap.size ≤ g ∧ w.heap[g]? = some (.cells (ilC (lnP m (-1) zLen (strN s)).2.1) 3 (0, 0)) ∧ strN t = (lnP m (-1) zLen (strN s)).2.2))
theorem LnEnd.bad {w0 w : World} {m k : Nat} {s : ByteArray} {p : List Int × List Nat} (hb : Below w0.heap.size w0 w) (h : lnP m (-1) zLen (strN s) = (k, p)) (hk : k ≠ 0) : LnEnd w0 m s (.returned (.tuple #[.slice none 0 0, .string ⟨#[]⟩, .int .i64 (k : Int)])) w :=
  ⟨hb, .inl ⟨by rw [h]; exact hk, by rw [h]⟩⟩
set_option maxRecDepth 100000 in
set_option maxHeartbeats 2000000 in
theorem plens_any (s : ByteArray) (m : Nat) (w : World) (hm : m ≤ 256) (hs : s.size ≤ 9223372036854775807) :
    Calls Tryd.prog 114 #[.string s, .int .i64 (m : Int)] w (LnEnd w m s) := by
  have hmk : ∀ u : World, (Instr.makeSlice 116 (.int .i64 256) (.int .i64 256)).run Tryd.prog u = .ok (.slice (some ⟨u.heap.size, 0, none⟩) 256 256) (u.alloc (.cells (ilC zLen) 3)) := fun u => by
    have := run_make_ints 256 (by decide) u
    rw [show nC (List.replicate 256 0) = ilC zLen from ilC_zero 256] at this
    exact this
  have HB0 := Lib.hid ((Below.refl w.heap.size w).alloc (Nat.le_refl _) (.cells (ilC zLen) 3))
  have HR0 := Lib.hid (heap_alloc_new w (.cells (ilC zLen) 3))
  obtain ⟨R, hR⟩ : ∃ R, lnP m (-1) zLen (strN s) = R := ⟨_, rfl⟩
  have HRR := Lib.hid hR
  clear hR
  have HZ : Hid (zLen.length = 256) := by show _ = _; rfl
  generalize hzz : zLen = Z at *
  have HZZ := Lib.hid hzz
  clear hzz
  go_enter Tryd.func114, Tryd.ntmps114
  go_wp2_with fail
  clear hmk
  go_loopw [0, 8, 13] (fun sv lv iv wr => ∃ (i : Nat) (x : ByteArray) (last : Int) (out : List Int), sv = .string x ∧ lv = .int .i64 last ∧ iv = .int .i64 (i : Int) ∧ i ≤ m ∧ x.size ≤ s.size ∧ out.length = 256 ∧ -1 ≤ last ∧ last < 256 ∧ lnP (m - i) last out (strN x) = R ∧ wr.heap[w.heap.size]? = some (.cells (ilC out) 3 (0, 0)) ∧ Below w.heap.size w wr) (fun _ _ iv _ => m - (intOf iv).toNat)
  case atStart => exact ⟨0, s, -1, Z, rfl, rfl, rfl, Nat.zero_le _, Nat.le_refl _, HZ.out, by omega, by omega, HRR.out, HR0.out, HB0.out⟩
  case round =>
    obtain ⟨i, x, last, out, rfl, rfl, rfl, hi, hx, ho, hl0, hl1, hn, hrow, hb⟩ := hrel
    have HX := Lib.hid hx
    have HO := Lib.hid ho
    have HN := Lib.hid hn
    have HQ := Lib.hid hrow
    have HB := Lib.hid hb
    clear hx ho hn hrow hb
    by_cases hlt : i < m
    · have m1 : (i : Int) < (m : Int) := by omega
      have HMI : Hid (m - i = (m - (i + 1)) + 1) := by show _ = _; omega
      by_cases h2 : x.size < 2
      · have z1 : (x.size : Int) < 2 := by omega
        have HE : Hid (R = (3, [], [])) := by show _ = _; rw [← HN.out, HMI.out]; exact lnP_short (by rw [strN_length]; exact h2)
        clear h2
        go_wp2_with fail
        go_ret3
        exact LnEnd.bad (k := 3) HB.out (by rw [HZZ.out, HRR.out, HE.out]) (by decide)
      · have z1 : ¬ (x.size : Int) < 2 := by omega
        have z2 : (0 : Int) < (x.size : Int) := by omega
        have z3 : (1 : Int) < (x.size : Int) := by omega
        have q0 : 0 < x.size := by omega
        have q1 : 1 < x.size := by omega
        have e0 := byte_at' x 0 q0
        have e1 := byte_at' x 1 q1
        have l0 : (x[0]'q0).toNat < 256 := UInt8.toNat_lt _
        have l1 : (x[1]'q1).toNat < 256 := UInt8.toNat_lt _
        obtain ⟨b, hb⟩ : ∃ b, (x[0]'q0).toNat = b := ⟨_, rfl⟩
        obtain ⟨n, hn⟩ : ∃ n, (x[1]'q1).toNat = n := ⟨_, rfl⟩
        rw [hb] at e0 l0
        rw [hn] at e1 l1
        have E0 := Lib.hid e0
        have E1 := Lib.hid e1
        have H2 : Hid (¬ (strN x).length < 2) := by show ¬ _; rw [strN_length]; exact h2
        clear e0 e1 h2
        have b0 : (0 : Int) ≤ (b : Int) := Int.natCast_nonneg _
        have b1 : (b : Int) < 256 := by omega
        have b2 : (0 : Int) ≤ (n : Int) := Int.natCast_nonneg _
        have b3 : (n : Int) < 256 := by omega
        by_cases c1 : (b : Int) ≤ last
        · have HE : Hid (R = (4, [], [])) := by show _ = _; rw [← HN.out, HMI.out]; exact lnP_form H2.out (.inl (by rw [← E0.out]; exact c1))
          go_wp2_with fail
          go_quiet (fail)
          go_wp2_with fail
          go_ret3
          exact LnEnd.bad (k := 4) (below_dn HB.out _) (by rw [HZZ.out, HRR.out, HE.out]) (by decide)
        · by_cases c2 : n < 1
          · have c2' : (n : Int) < 1 := by omega
            have HE : Hid (R = (4, [], [])) := by show _ = _; rw [← HN.out, HMI.out]; exact lnP_form H2.out (.inr (.inl (by rw [← E1.out]; exact c2)))
            go_wp2_with fail
            go_quiet (fail)
            go_wp2_with fail
            go_ret3
            exact LnEnd.bad (k := 4) (below_dn HB.out _) (by rw [HZZ.out, HRR.out, HE.out]) (by decide)
          · have c2' : ¬ (n : Int) < 1 := by omega
            by_cases c3 : 48 < n
            · have c3' : (48 : Int) < (n : Int) := by omega
              have HE : Hid (R = (4, [], [])) := by show _ = _; rw [← HN.out, HMI.out]; exact lnP_form H2.out (.inr (.inr (by rw [← E1.out]; exact c3)))
              go_wp2_with fail
              go_quiet (fail)
              go_wp2_with fail
              go_ret3
              exact LnEnd.bad (k := 4) (below_dn HB.out _) (by rw [HZZ.out, HRR.out, HE.out]) (by decide)
            · have c3' : ¬ (48 : Int) < (n : Int) := by omega
              have HE : Hid (lnP (m - (i + 1)) (b : Nat) (out.set b (n : Nat)) ((strN x).drop 2) = R) := by
                show _ = _
                rw [← HN.out, HMI.out, lnP_more H2.out (by rw [← E0.out, ← E1.out]; omega), ← E0.out, ← E1.out]
              have fb : Hid (∀ k, ((wr.drewN k).frozen? ⟨w.heap.size, b, none⟩) = false) := fun k => frozen_of_row _ _ b _ _ (show (wr.drewN k).heap[w.heap.size]? = _ from HQ.out)
              have cb : Hid (∀ k, ((wr.drewN k).cell? ⟨w.heap.size, b, none⟩) = some (.int .i64 (out[b]'(by have := HO.out; omega)))) := fun k => by
                rw [cell_of_row _ _ b _ _ _ (show (wr.drewN k).heap[w.heap.size]? = _ from HQ.out)]
                exact ilC_get out b (by have := HO.out; omega)
              have hk2 : (2 : Int) ≤ (x.size : Int) := by omega
              have hQ : Hid (∀ k, (wr.drewN k).heap[w.heap.size]? = some (.cells (ilC out) 3 (0, 0))) := fun k => HQ.out
              have hBN : Hid (∀ k, Below w.heap.size w (wr.drewN k)) := fun k => below_dn HB.out k
              obtain ⟨y, hy⟩ : ∃ y, x.extract 2 x.size = y := ⟨_, rfl⟩
              have HY := Lib.hid hy
              generalize out[b]'(by have := HO.out; omega) = ob at *
              go_wp2_with fail
              go_quiet (fail)
              go_wp2_with fail
              have hfb := fb.out
              have hcb := cb.out
              have hsz := HO.out
              go_region
              all_goals go_wp2_with fail
              refine ⟨⟨i + 1, y, b, out.set b (n : Int), rfl, rfl, by go_num, by omega, ?_, by rw [List.length_set]; exact HO.out, by omega, by omega, ?_, ?_, (hBN.out _).setCell (Nat.le_refl _) _⟩, by simp [intOf]; omega⟩
              · have h1 := congrArg List.length (extract_strN x 2); rw [HY.out, strN_length, List.length_drop, strN_length] at h1; have := HX.out; omega
              · rw [← HY.out, extract_strN x 2]; exact HE.out
              · rw [← ilC_set]; exact heap_setCell_same _ w.heap.size b (ilC out) _ (.int .i64 (n : Int)) (hQ.out _)
    · have m1 : ¬ (i : Int) < (m : Int) := by omega
      have hie : m - i = 0 := by omega
      have HE : Hid (R = (0, out, strN x)) := by show _ = _; rw [← HN.out, hie]; rfl
      clear hie
      go_wp2_with fail
      go_ret3
      exact ⟨HB.out, .inr ⟨by rw [HZZ.out, HRR.out, HE.out], _, x, rfl, Nat.le_refl _, by rw [HZZ.out, HRR.out, HE.out]; exact HQ.out, by rw [HZZ.out, HRR.out, HE.out]⟩⟩
end Go.Proofs.YtbfhhnpoogmlnaaDoor
