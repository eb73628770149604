/- The walk of line.Sends. -/
import Derived.Test.YtinjnclpiiohcaaLineCk
namespace Go.Proofs.Ytinjnclpiiohcaa
open Go.RowKit Plain
set_option linter.unusedVariables false
set_option linter.unusedSimpArgs false
def SentTo (T : List ByteArray) (had : List Bool) (b i : Nat) (out : List PkT) : Prop :=
  (∀ p ∈ out, p.1 = 1 ∧ (b : Int) ≤ p.2.1 ∧ p.2.1 < i ∧ T[p.2.1.toNat]? = some p.2.2) ∧ (∀ j, b ≤ j → j < i → had[j]? = some false → ∃ p ∈ out, p.2.1 = (j : Int)) ∧ out.length + b ≤ i
theorem own_mono {w : World} {base base' : Nat} {e : TypeId} {k : Nat} {v : Value} {n : Nat} {xs : List Value} (h : w.ownsRow base e k v n xs) (hb : base' ≤ base) : w.ownsRow base' e k v n xs := by
  refine ⟨h.1, ?_⟩
  rcases h.2 with hv | ⟨g, cap, cur, hv, hB, hg, h3⟩
  · exact .inl hv
  · exact .inr ⟨g, cap, cur, hv, Nat.le_trans hb hB, hg, h3⟩
def SnEnd (w0 : World) (T : List ByteArray) (had : List Bool) (b : Int) (e : Ending) (w : World) : Prop := Below w0.heap.size w0 w ∧ ((¬ SOk T had b ∧ ∃ c : Nat, c ≠ 0 ∧ e = .returned (.tuple #[.slice none 0 0, .int .i64 (c : Int)])) ∨
  (SOk T had b ∧ ∃ (out : List PkT) (a : Option Addr) (k : Nat), e = .returned (.tuple #[.slice a out.length k, .int .i64 0]) ∧ w.ownsRow w0.heap.size 30 3 (.slice a out.length k) out.length (out.flatMap pkC) ∧ Sent T had b.toNat out ∧ out.length + b.toNat ≤ T.length))
set_option maxRecDepth 100000 in
set_option maxHeartbeats 4000000 in
theorem sends_any (ta ha : Option Addr) (tc hc : Nat) (T : List ByteArray) (had : List Bool) (b : Int) (w : World) (ht : SAt 1 stC w ta T) (hh : SAt 1 boC w ha had) (nt : T.length ≤ 9223372036854775807) (nh : had.length ≤ 9223372036854775807) :
    Calls Try.prog 13 #[.agg #[.slice ta T.length tc, .slice ha had.length hc, .int .i64 b]] w (SnEnd w T had b) := by
  obtain ⟨i0, hi0, hz0, hz1, hz2⟩ := info_pkM
  have HB := Lib.hid ((Below.refl w.heap.size w).alloc (Nat.le_refl _) (.cells #[.slice ta T.length tc, .slice ha had.length hc, .int .i64 b] 25))
  have HROW0 := Lib.hid (heap_alloc_new w (.cells #[.slice ta T.length tc, .slice ha had.length hc, .int .i64 b] 25))
  have HT := Lib.hid ht
  have HH := Lib.hid hh
  have HCK := Lib.hid fun u h1 h2 => csender_any ta ha tc hc T had b u h1 h2 nt nh
  clear ht hh
  go_enter Try.func13, Try.ntmps13
  go_wp2_with fail
  refine (HCK.out _ (HT.out.below HB.out) (HH.out.below HB.out)).mono ?_
  rintro e w1 ⟨c, rfl, hc, hb1⟩
  have HB1 := Lib.hid (Below.next HB.out hb1 (by simp))
  have HR1 := Lib.hid ((hb1.block _ (lt_of_block HROW0.out)).trans HROW0.out)
  clear hb1
  by_cases hc0 : c = 0
  · have hok := hc.1 hc0
    subst hc0
    have HOK := Lib.hid hok
    obtain ⟨B, rfl⟩ : ∃ B : Nat, b = (B : Int) := ⟨b.toNat, by have := hok.2.2.1; omega⟩
    have hT := hok.1
    have hBn : B ≤ T.length := by have := hok.2.2.2.1; omega
    have HHL : Hid (had.length = T.length) := hok.2.1
    clear hc hok
    have r0 := cell_of_row _ _ 0 _ _ _ HR1.out
    have r1 := cell_of_row _ _ 1 _ _ _ HR1.out
    have r2 := cell_of_row _ _ 2 _ _ _ HR1.out
    simp only [List.getElem?_toArray, List.getElem?_cons_succ, List.getElem?_cons_zero] at r0 r1 r2
    go_wp2_with fail
    clear r0 r1 r2
    go_loopw [5, 6] (fun ov iv wr => ∃ (i : Nat) (out : List PkT) (oa : Option Addr) (oc : Nat), B ≤ i ∧ i ≤ B + 8 ∧ i ≤ T.length ∧ ov = .slice oa out.length oc ∧ iv = .int .i64 (i : Int) ∧ Hid (Below w.heap.size w wr) ∧ Hid (wr.heap[w.heap.size]? = some (.cells #[.slice ta T.length tc, .slice ha had.length hc, .int .i64 (B : Int)] 25 (0, 0))) ∧
      Hid (wr.ownsRow (w.heap.size + 1) 30 3 (.slice oa out.length oc) out.length (out.flatMap pkC)) ∧ Hid (SentTo T had B i out)) (fun _ iv _ => T.length - (intOf iv).toNat)
    case atStart => exact ⟨B, [], none, 0, by omega, by omega, hBn, rfl, rfl, HB1, HR1, Lib.hid (World.ownsRow_nil _ _ _ _), Lib.hid ⟨by simp, fun j h1 h2 => by omega, by simp⟩⟩
    case round =>
      obtain ⟨i, out, oa, oc, hi1, hi2, hi3, rfl, rfl, HBR, HRW, HOW, HS⟩ := hrel
      have q0 := cell_of_row _ _ 0 _ _ _ HRW.out
      have q1 := cell_of_row _ _ 1 _ _ _ HRW.out
      have q2 := cell_of_row _ _ 2 _ _ _ HRW.out
      simp only [List.getElem?_toArray, List.getElem?_cons_succ, List.getElem?_cons_zero] at q0 q1 q2
      have m0 : (0 : Int) ≤ (i : Int) := Int.natCast_nonneg _
      by_cases hlt : i < B + 8 ∧ i < T.length
      · have a1 : (i : Int) < (B : Int) + 8 := by omega
        have a2 : (i : Int) < (T.length : Int) := by omega
        have a3 : (i : Int) < min ((B : Int) + 8) (T.length : Int) := by omega
        have hil := hlt.2
        obtain ⟨x, hx⟩ : ∃ x, T[i] = x := ⟨_, rfl⟩
        obtain ⟨y, hy⟩ : ∃ y, had[i]'(by have := HHL.out; omega) = y := ⟨_, rfl⟩
        obtain ⟨g, off, rfl, hg, c0⟩ := SAt.cell1 (fun s => .string s) (fun _ => rfl) (HT.out.below HBR.out) i hil x hx
        obtain ⟨g2, off2, rfl, hg2, c1⟩ := SAt.cell1 (fun s => .bool s) (fun _ => rfl) (HH.out.below HBR.out) i (by have := HHL.out; omega) y hy
        have mh : (i : Int) < (had.length : Int) := by have := HHL.out; omega
        have HXE : Hid (T[i]? = some x) := by show _ = _; rw [List.getElem?_eq_getElem hil, hx]
        have HYE : Hid (had[i]? = some y) := by show _ = _; rw [List.getElem?_eq_getElem (by have := HHL.out; omega), hy]
        clear hx hy hg hg2
        cases y with
        | true =>
          have HSN : Hid (SentTo T had B (i + 1) out) := by
            refine ⟨fun p hp => ?_, fun j h1 h2 h3 => ?_, by have := HS.out.2.2; omega⟩
            · have := HS.out.1 p hp
              exact ⟨this.1, this.2.1, by omega, this.2.2.2⟩
            · rcases Nat.lt_or_ge j i with h4 | h4
              · exact HS.out.2.1 j h1 h4 h3
              · obtain rfl : j = i := by omega
                rw [HYE.out] at h3; cases h3
          go_wp2_with fail
          go_roundw
          case rel => exact ⟨i + 1, out, _, oc, by omega, by omega, by omega, rfl, by go_num, HBR, HRW, HOW, HSN⟩
          case measure => simp [intOf]; omega
        | false =>
          have D1 := Lib.hid (cells_new_at wr wr.heap.size rfl #[.int .i64 1, .int .i64 (i : Int), .string x] 30 (pkC ((1, (i : Int), x) : PkT)) rfl)
          have HONE := Lib.hid (pkC_one ((1, (i : Int), x) : PkT))
          have hle := HS.out.2.2
          have D3 : Hid (out.length + 1 ≤ maxLen) := by show _ ≤ _; unfold maxLen; omega
          have D4 : Hid ((out.length + 1) * 32 ≤ 140737488355328) := by show _ ≤ _; omega
          have hsz := HBR.out.size
          have hlt2 := lt_of_block HRW.out
          have D5 : Hid (w.heap.size + 1 ≤ (wr.alloc (.cells #[.int .i64 1, .int .i64 (i : Int), .string x] 30)).heap.size) := by show _ ≤ _; simp; omega
          clear hle hsz hlt2
          go_wp2_with (at_builtin; refine wpList_append_own _ rfl _ _ 26 rfl (w.heap.size + 1) 30 i0 (.agg (pkC ((0, 0, ⟨#[]⟩) : PkT)).toArray) 3 32 Try.underlying26 hi0 hz0 hz1 hz2 rfl (by decide) _ _ _ rfl (HOW.out.alloc _) ⟨wr.heap.size, 0, none⟩ 1 1 (pkC ((1, (i : Int), x) : PkT)) rfl rfl D1.out HONE.out D3.out D4.out D5.out ?_)
          intro v' w3 hown' hgrow _
          have BW := Lib.hid (below_own (HBR.out.alloc HBR.out.size (.cells #[.int .i64 1, .int .i64 (i : Int), .string x] 30)) hgrow (by have := HBR.out.size; simp; omega) (HOW.out.alloc _) (Nat.le_succ _))
          have HRN := Lib.hid ((show w3.heap[w.heap.size]? = wr.heap[w.heap.size]? from by
            rw [hgrow.block _ (by have := lt_of_block HRW.out; simp; omega) (fun e => by
              have := (HOW.out.alloc (.cells #[.int .i64 1, .int .i64 (i : Int), .string x] 30)).lt _ e.symm
              omega), Below.heap_alloc _ _ _ (lt_of_block HRW.out)]).trans HRW.out)
          obtain ⟨oa2, oc2, rfl⟩ := own_formK hown'
          have OW : Hid (w3.ownsRow (w.heap.size + 1) 30 3 (.slice oa2 (out ++ [((1, (i : Int), x) : PkT)]).length oc2) (out ++ [((1, (i : Int), x) : PkT)]).length ((out ++ [((1, (i : Int), x) : PkT)]).flatMap pkC)) := by
            show w3.ownsRow _ _ _ _ _ _
            rw [List.length_append, List.flatMap_append, List.flatMap_singleton]
            exact hown'
          have HSN : Hid (SentTo T had B (i + 1) (out ++ [((1, (i : Int), x) : PkT)])) := by
            refine ⟨fun p hp => ?_, fun j h1 h2 h3 => ?_, by have := HS.out.2.2; simp only [List.length_append, List.length_singleton]; omega⟩
            · rcases List.mem_append.1 hp with hp | hp
              · have := HS.out.1 p hp
                exact ⟨this.1, this.2.1, by omega, this.2.2.2⟩
              · simp only [List.mem_singleton] at hp
                subst hp
                exact ⟨rfl, by simp only; omega, by simp only; omega, by simpa using HXE.out⟩
            · rcases Nat.lt_or_ge j i with h4 | h4
              · obtain ⟨p, hp, e⟩ := HS.out.2.1 j h1 h4 h3
                exact ⟨p, List.mem_append.2 (.inl hp), e⟩
              · obtain rfl : j = i := by omega
                exact ⟨_, List.mem_append.2 (.inr (List.mem_singleton.2 rfl)), rfl⟩
          clear hown' hgrow
          go_wp2_with fail
          go_roundw
          case rel => exact ⟨i + 1, out ++ [((1, (i : Int), x) : PkT)], oa2, oc2, by omega, by omega, by omega, by rw [List.length_append]; rfl, by go_num, BW, HRN, OW, HSN⟩
          case measure => simp [intOf]; omega
      · have a3 : ¬ ((i : Int) < min ((B : Int) + 8) (T.length : Int)) := by omega
        have HFIN : Hid (Sent T had B out) := by
          refine ⟨fun p hp => ?_, fun j h1 h2 h3 h4 => ?_, by have := HS.out.2.2; omega⟩
          · have := HS.out.1 p hp
            exact ⟨this.1, this.2.1, by omega, this.2.2.2⟩
          · exact HS.out.2.1 j h1 (by omega) h4
        have HOWN : Hid (wr.ownsRow w.heap.size 30 3 (.slice oa out.length oc) out.length (out.flatMap pkC)) := own_mono HOW.out (Nat.le_succ _)
        clear hlt
        go_wp2_with fail
        go_ret2
        exact ⟨HBR.out, .inr ⟨HOK.out, out, oa, oc, rfl, HOWN.out, HFIN.out, by have := HS.out.2.2; have : ((B : Int)).toNat = B := rfl; omega⟩⟩
  · have f2 : (((c : Nat) : Int) != 0) = true := by simpa using hc0
    have HN : Hid (¬ SOk T had b) := fun h => hc0 (hc.2 h)
    have HC0 := Lib.hid hc0
    clear hc hc0
    go_wp2_with fail
    go_ret2
    exact ⟨HB1.out, .inl ⟨HN.out, c, HC0.out, rfl⟩⟩
end Go.Proofs.Ytinjnclpiiohcaa
