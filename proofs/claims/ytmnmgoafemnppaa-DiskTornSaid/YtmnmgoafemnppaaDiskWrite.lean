/- The disk's Write. -/
import Derived.Test.YtmnmgoafemnppaaDiskDo
namespace Go.Proofs.Ytmnmgoafemnppaa
open Go.RowKit Plain Go.Maps
set_option linter.unusedVariables false
set_option linter.unusedSimpArgs false
theorem invKS : ∀ key kl, keyOf Try.prog 9 key = some kl → ∃ x, key = Value.string x := fun key kl h => by
  obtain ⟨x, hx, _⟩ := Maps.keyOf_str Try.underlying9 h
  exact ⟨tB x, hx⟩
theorem invVS : ∀ v (y : DataW Unit × List MemPlace), plainElem Try.prog 9 v = some y → ∃ c, v = Value.string c := fun v y h => by
  obtain ⟨s, hs, _⟩ := plainElem_string_inv Try.underlying9 h
  exact ⟨s, hs⟩
/-- the sum so far -/
def SB (DF : DM) (s0 : Nat) (c : Int) (cnt : Nat) : Prop := ∀ B : Nat, (∀ k v, lookM DF k = some v → v.length ≤ B) → (s0 : Int) + ((B * Maps.size DF : Nat) : Int) ≤ 1099511627776 → 0 ≤ c ∧ c + ((B * cnt : Nat) : Int) ≤ (s0 : Int) + ((B * Maps.size DF : Nat) : Int)
theorem SB.start (DF : DM) (s0 : Nat) : SB DF s0 (s0 : Int) (Maps.size DF) := fun B _ _ => ⟨Int.natCast_nonneg _, Int.le_refl _⟩
theorem SB.skip {DF : DM} {s0 : Nat} {c : Int} {cnt cnt' : Nat} (h : SB DF s0 c cnt) (hc : cnt' ≤ cnt) : SB DF s0 c cnt' := fun B h1 h2 => by
  obtain ⟨h3, h4⟩ := h B h1 h2
  have : B * cnt' ≤ B * cnt := Nat.mul_le_mul_left _ hc
  exact ⟨h3, by omega⟩
theorem SB.add {DF : DM} {s0 : Nat} {c : Int} {cnt cnt' : Nat} (h : SB DF s0 c cnt) (hc : cnt' < cnt) {k v : TB} (hl : lookM DF k = some v) : SB DF s0 (IntKind.i64.wrap (c + (v.length : Int))) cnt' := fun B h1 h2 => by
  obtain ⟨h3, h4⟩ := h B h1 h2
  have h5 := h1 k v hl
  have h6 : B * cnt' + B ≤ B * cnt := by
    have := Nat.mul_le_mul_left B (Nat.succ_le_of_lt hc)
    rw [Nat.mul_succ] at this
    exact this
  have hw : IntKind.i64.wrap (c + (v.length : Int)) = c + (v.length : Int) := by rw [IntKind.wrap_i64]; omega
  rw [hw]
  exact ⟨by omega, by omega⟩
theorem look_of_at {D : DM} {k v : TB} (h : ∀ zd, D.atKey (.string k) zd = .lit (.string v)) : lookM D k = some v := by
  have hh : has D (.string k) = true := by
    cases hb : has D (.string k) with
    | true => rfl
    | false =>
      have h1 := atKey_of_not_has hb (.lit (.int .i64 0))
      rw [h] at h1
      injection h1 with h1
      cases h1
  unfold lookM
  rw [if_pos hh, h]
def SmallW (N : Nat) (d : Dst) (n s : ByteArray) : Prop := d.down = false ∧ rightB n = true ∧ s.size ≤ 65536 ∧ d.room ≤ 1099511627776 ∧ ∃ B : Nat, (∀ k v, d.F k = some v → v.length ≤ B) ∧ (s.size : Int) + ((B * N : Nat) : Int) ≤ d.room
def DWEnd (base p N : Nat) (d : Dst) (n s : ByteArray) (w : World) (e : Ending) (w' : World) : Prop := ∃ (c : Int) (d' : Dst), e = .returned (.int .i64 c) ∧ WrStep d (bT n) (bT s) c d' ∧ DS base p (N + 1) d' w' ∧ FR base w w' ∧ (SmallW N d n s → c = 0)
theorem dec_room (d : Dst) : d.dec.room = d.room ∧ d.dec.F = d.F ∧ d.dec.G = d.G ∧ d.dec.C = d.C := by
  unfold Dst.dec
  split <;> exact ⟨rfl, rfl, rfl, rfl⟩
set_option maxRecDepth 100000 in
set_option maxHeartbeats 8000000 in
theorem dwrite_any {base p N : Nat} {d : Dst} {w : World} (n s : ByteArray) (hn : n.size ≤ 9223372036854775807) (hs : s.size ≤ 9223372036854775807) (hN : N ≤ 4398046511104) (h : DS base p N d w) : Calls Try.prog 20 #[.pointer (some ⟨p, 0, none⟩), .string n, .string s] w (DWEnd base p N d n s w) := by
  have HBG := Lib.hid (begin_any h)
  have HRT := Lib.hid fun (W : World) => right_any n W hn
  have HN := Lib.hid hN
  have HSZ : Hid (n.size ≤ maxLen ∧ s.size ≤ maxLen) := Lib.hid ⟨hn, hs⟩
  clear h
  go_enter Try.func20, Try.ntmps20
  go_wp2_with fail
  refine HBG.out.mono ?_
  rintro e w1 ⟨hfr, ⟨hd, rfl, hds⟩ | ⟨hd, rfl, hds⟩⟩
  · have HEND : Hid (DWEnd base p N d n s w (.returned (.int .i64 17)) w1) := Lib.hid ⟨17, d, rfl, .inl ⟨hd, rfl, rfl⟩, hds.mono (Nat.le_succ _), hfr, fun h => by have := h.1; rw [hd] at this; cases this⟩
    clear hfr hd hds HBG HRT
    go_wp2_with fail
    go_ret
    exact HEND.out
  have HD := Lib.hid hd
  have HF1 := Lib.hid hfr
  have HDS1 := Lib.hid hds
  clear hfr hd hds HBG
  go_wp2_with fail
  refine (HRT.out w1).mono ?_
  rintro e w2 ⟨rfl, hw2⟩
  subst hw2
  cases hr : rightB n with
  | false =>
    have HEND : Hid (DWEnd base p N d n s w (.returned (.int .i64 8)) w2) := Lib.hid ⟨8, d.dec, rfl, .inr ⟨HD.out, .inl ⟨by decide, by decide, rfl⟩⟩, HDS1.out.mono (Nat.le_succ _), HF1.out, fun h => by have := h.2.1; rw [hr] at this; cases this⟩
    clear hr HRT
    go_wp2_with fail
    go_ret
    exact HEND.out
  | true =>
    by_cases hs2 : 65536 < s.size
    · have g1 : (65536 : Int) < (s.size : Int) := by omega
      have HEND : Hid (DWEnd base p N d n s w (.returned (.int .i64 2)) w2) := Lib.hid ⟨2, d.dec, rfl, .inr ⟨HD.out, .inl ⟨by decide, by decide, rfl⟩⟩, HDS1.out.mono (Nat.le_succ _), HF1.out, fun h => by have := h.2.2.1; omega⟩
      clear hr HRT hs2
      go_wp2_with fail
      go_ret
      exact HEND.out
    · have g1 : ¬ (65536 : Int) < (s.size : Int) := by omega
      have HS6 : Hid (s.size ≤ 65536) := Lib.hid (by omega)
      obtain ⟨f, g, nf, ng, DF, DG, ca, cc, hx⟩ := HDS1.out
      have HX := Lib.hid hx
      obtain ⟨c0, c1, c2, c3, c4, c5⟩ := drow_cells hx.1
      have HBL : Hid (base ≤ w2.heap.size) := Lib.hid HDS1.out.base_le
      clear hx hr HRT hs2
      generalize hw6 : w2 = w6 at *
      go_wp2_with (first
        | (at_range; refine wpList_range_own _ rfl _ 48 rfl 9 9 law_str Try.underlying48 _ f nf DF rfl HX.out.2.1 ?_; intro w7 hrg7 hg7 hs7)
        | go_in)
      have HRG7 := Lib.hid hrg7
      have HB7 : Hid (Below w6.heap.size w6 w7) := Lib.hid ((Below.refl _ _).grown hg7 (Nat.le_refl _) (fun j hj => by cases hj))
      clear hrg7 hg7 hs7 hw6
      generalize hRB : w6.heap.size = RB at *
      go_frame
      go_wp2_with fail
      go_loopw [8] (fun sv wr => ∃ (c : Int) (left : Lit → Bool) (cnt : Nat), sv = .int .i64 c ∧ Hid (wr.ranges Try.prog 9 (plainElem Try.prog 9) f RB nf DF left cnt) ∧ Hid (Below RB w6 wr) ∧ Hid (SB DF s.size c cnt)) (fun _ wr => wr.rangeLeft f RB)
      case atStart => exact ⟨_, _, _, rfl, HRG7, HB7, Lib.hid (SB.start DF s.size)⟩
      case round =>
        obtain ⟨c, left, cnt, rfl, HRG, HBR, HSB⟩ := hrel
        go_wp2_with (first
          | (at_next; refine wpList_next_ranges _ rfl _ rfl 9 law_str (plainElem Try.prog 9) Value.string Value.string invKS invVS f RB nf DF left cnt rfl HRG.out ?_ ?_)
          | go_in)
        · intro hc0 hl0
          clear hl0
          have HC0 := Lib.hid hc0
          have HBW : Hid (Below w6.heap.size w6 wr) := Lib.hid (by rw [hRB]; exact HBR.out)
          have HDSr := Lib.hid (HDS1.out.below HBW.out)
          have HFr := Lib.hid (HF1.out.trans (FR.of_below HBW.out (by rw [hRB]; exact HBL.out)))
          have hxr := HX.out.below HBW.out
          obtain ⟨r0, r1, r2, r3, r4, r5⟩ := drow_cells hxr.1
          have HDO := Lib.hid (do_any (.wr (bT n) (bT s)) ⟨by rw [bT_length]; exact HSZ.out.1, by rw [bT_length]; exact HSZ.out.2⟩ HN.out HDSr.out)
          rw [show chV (.wr (bT n) (bT s)) = .iface 67 (.agg #[.string n, .string s]) by simp only [chV, tB_bT]] at HDO
          rw [(dec_room d).1] at r0
          have HNF : Hid (Maps.size DF ≤ N) := Lib.hid (Nat.le_trans HX.out.2.1.size_le HX.out.2.2.2.2.2.2.2.2.1.1)
          have HFD : Hid (d.F = lookM DF) := Lib.hid ((dec_room d).2.1 ▸ HX.out.2.2.2.2.2.2.1)
          clear hc0 hxr
          by_cases hful : d.room < c
          · have HEND : Hid (DWEnd base p N d n s w (.returned (.int .i64 12)) wr) := Lib.hid ⟨12, d.dec, rfl, .inr ⟨HD.out, .inl ⟨by decide, by decide, rfl⟩⟩, HDSr.out.mono (Nat.le_succ _), HFr.out, fun hsm => by
              obtain ⟨_, _, _, hr4, B, hB1, hB2⟩ := hsm
              have hm : B * Maps.size DF ≤ B * N := Nat.mul_le_mul_left _ HNF.out
              rw [HFD.out] at hB1
              obtain ⟨_, h5⟩ := HSB.out B hB1 (by omega)
              have : (0 : Int) ≤ ((B * cnt : Nat) : Int) := Int.natCast_nonneg _
              omega⟩
            clear r1 r2 r3 r4 r5 HDO
            go_wp2_with fail
            go_ret
            exact HEND.out
          · clear r1 r2 r3 r4 r5
            go_wp2_with fail
            refine HDO.out.mono ?_
            rintro e w9 ⟨hf9, rfl, hd9⟩
            have HEND : Hid (DWEnd base p N d n s w (.returned (.int .i64 0)) w9) := Lib.hid ⟨0, d.dec.act (.wr (bT n) (bT s)), rfl, .inr ⟨HD.out, .inr ⟨rfl, rfl, by rw [bT_length]; exact HS6.out⟩⟩, hd9, HFr.out.trans hf9, fun _ => rfl⟩
            clear hf9 hd9 HDO
            go_wp2_with fail
            go_ret
            exact HEND.out
        · intro x c8 kl yd yp w8 cnt8 hkey hlk8 hv hat hrg8 hlt8 hg8 hs8 hen
          obtain ⟨kx, hkx, rfl, _⟩ := Maps.keyOf_str Try.underlying9 hkey
          obtain ⟨s8, hs8e, hz8, _⟩ := plainElem_string_inv Try.underlying9 hv
          injection hs8e with hs8e
          subst hs8e
          have hlook : lookM DF kx = some (bT c8) := look_of_at fun zd => (hat zd).trans (congrArg Prod.fst hz8)
          have HADD := Lib.hid (HSB.out.add hlt8 hlook)
          rw [bT_length] at HADD
          have HSK := Lib.hid (HSB.out.skip (Nat.le_of_lt hlt8))
          have HRG8 := Lib.hid hrg8
          have HB8 : Hid (Below RB w6 w8) := Lib.hid (HBR.out.grown hg8 (by rw [← hRB]; exact HBR.out.size) (fun j hj => by cases hj; exact Nat.le_refl _))
          have HLT8 := Lib.hid hlt8
          clear hs8 hkey hlk8 hv hat hrg8 hlt8 hg8 hkx hz8 hlook
          by_cases hne : x = n
          · have f1 := neS hne
            clear hne
            go_wp2_with fail
            go_roundw
            case rel => exact ⟨c, _, cnt8, rfl, HRG8, HB8, HSK⟩
            case measure => rw [HRG8.out.left_eq, HRG.out.left_eq]; exact HLT8.out
          · have f1 := neS' hne
            clear hne
            go_wp2_with fail
            go_roundw
            case rel => exact ⟨_, _, cnt8, rfl, HRG8, HB8, Lib.hid (by have h9 := HADD.out; first | exact h9 | (rw [IntKind.wrap_i64] at h9; exact h9) | (simpa [IntKind.wrap_i64, wrap64] using h9))⟩
            case measure => rw [HRG8.out.left_eq, HRG.out.left_eq]; exact HLT8.out
end Go.Proofs.Ytmnmgoafemnppaa
