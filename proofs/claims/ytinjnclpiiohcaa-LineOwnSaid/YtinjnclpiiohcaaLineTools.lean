/- The walks of slices.Equal over strings, slices.ContainsFunc over packets, begun, lined. -/
import Derived.Test.YtinjnclpiiohcaaWayStep
import Derived.Test.YtinjnclpiiohcaaLineShort
import Derived.Test.YtinjnclpiiohcaaShelf3
namespace Go.Proofs.Ytinjnclpiiohcaa
open Go.RowKit Plain
set_option linter.unusedVariables false
set_option linter.unusedSimpArgs false
theorem eqS_any (a b : Option Addr) (ca cb : Nat) (l m : List ByteArray) (w : World) (hl : SAt 1 stC w a l) (hm : SAt 1 stC w b m) (nl : l.length ≤ 9223372036854775807) (nm : m.length ≤ 9223372036854775807) :
    Calls Try.prog 27 #[.slice a l.length ca, .slice b m.length cb] w fun e w' => e = .returned (.bool (decide (l = m))) ∧ ∃ q, w' = w.drewN q := by
  by_cases hne : l.length = m.length
  · cases l with
    | nil =>
      obtain rfl : m = [] := List.eq_nil_of_length_eq_zero (by simpa using hne.symm)
      exact (Try.slices_Equal_string_empty a b ca 0 cb w nm).mono fun e w' ⟨he, hw⟩ => ⟨by rw [he]; rfl, 0, hw⟩
    | cons x l =>
      cases m with
      | nil => simp at hne
      | cons y m =>
        obtain ⟨g, off, rfl, _, _⟩ := hl 0 (by simp)
        obtain ⟨g2, off2, rfl, _, _⟩ := hm 0 (by simp)
        have cell : ∀ {g off : Nat} {l : List ByteArray}, SAt 1 stC w (some ⟨g, off, none⟩) l → ∀ j, j < l.length → w.cell? ⟨g, off + j, none⟩ = some (.string (l.getD j ByteArray.empty)) := by
          intro g off l h j hj
          obtain ⟨g3, off3, e, _, hc⟩ := SAt.cell1 (fun s => .string s) (fun _ => rfl) h j hj _ rfl
          cases e
          rw [hc, List.getD_eq_getElem?_getD, List.getElem?_eq_getElem hj]
          rfl
        refine (Try.slices_Equal_string g off (x :: l).length ca g2 off2 (y :: m).length cb (x :: l) (y :: m) w (Nat.le_refl _) (Nat.le_refl _) nl nm (cell hl) (cell hm)).mono fun e w' ⟨he, hw⟩ => ⟨?_, hw⟩
        rw [he, List.take_length, List.take_length]
  · refine (Try.slices_Equal_string_lens a b l.length ca m.length cb w hne).mono fun e w' ⟨he, hw⟩ => ⟨?_, 0, hw⟩
    rw [he, decide_eq_false]
    rintro rfl
    exact hne rfl
/-- what the closure has caught -/
structure Caught (ib tb I : Nat) (T : List ByteArray) (ta : Option Addr) (tc : Nat) (w : World) : Prop where
  i : w.heap[ib]? = some (.cells #[.int .i64 (I : Int)] 3 (0, 0))
  t : w.heap[tb]? = some (.cells #[.slice ta T.length tc] 22 (0, 0))
  s : SAt 1 stC w ta T
theorem Caught.below {ib tb I tc : Nat} {T : List ByteArray} {ta : Option Addr} {w w' : World} (h : Caught ib tb I T ta tc w) (hb : Below w.heap.size w w') : Caught ib tb I T ta tc w' :=
  ⟨(hb.block _ (lt_of_block h.i)).trans h.i, (hb.block _ (lt_of_block h.t)).trans h.t, h.s.below hb⟩
def HasP (I : Nat) (x : ByteArray) (p : PkT) : Prop := p.2.1 = (I : Int) ∧ p.2.2 = x
def HasAny (I : Nat) (x : ByteArray) (l : List PkT) : Prop := ∃ p ∈ l, HasP I x p
def F1End (w0 : World) (I : Nat) (x : ByteArray) (p : PkT) (e : Ending) (w : World) : Prop := (∃ b : Bool, e = .returned (.bool b) ∧ (b = true ↔ HasP I x p)) ∧ Below w0.heap.size w0 w
set_option maxRecDepth 100000 in
set_option maxHeartbeats 1600000 in
theorem front1_any (p : PkT) (ib tb I : Nat) (T : List ByteArray) (ta : Option Addr) (tc : Nat) (x : ByteArray) (w : World) (h : Caught ib tb I T ta tc w) (hI : I < T.length) (hx : T[I] = x) (hn : T.length ≤ 9223372036854775807) :
    Calls Try.prog 29 #[.agg (pkC p).toArray, .pointer (some ⟨ib, 0, none⟩), .pointer (some ⟨tb, 0, none⟩)] w (F1End w I x p) := by
  obtain ⟨k, q, s⟩ := p
  have hcl := h.below ((Below.refl w.heap.size w).alloc (Nat.le_refl _) (.cells (pkC (k, q, s)).toArray 30))
  simp only [pkC] at hcl ⊢
  have HB := Lib.hid ((Below.refl w.heap.size w).alloc (Nat.le_refl _) (.cells #[.int .i64 k, .int .i64 q, .string s] 30))
  have c0 := cell_of_row _ _ 0 _ _ _ hcl.i
  have c1 := cell_of_row _ _ 0 _ _ _ hcl.t
  obtain ⟨g, off, rfl, hg, c2⟩ := SAt.cell1 (fun s => .string s) (fun _ => rfl) hcl.s I hI x hx
  simp only [List.getElem?_toArray, List.getElem?_cons_zero] at c0 c1
  have m0 : (0 : Int) ≤ (I : Int) := Int.natCast_nonneg _
  have m1 : (I : Int) < (T.length : Int) := by omega
  clear h hcl hg hx
  go_enter Try.func29, Try.ntmps29
  by_cases hq : q = (I : Int)
  · subst hq
    by_cases hs : s = x
    · subst hs
      go_wp2_with fail
      go_quiet (fail)
      go_wp2_with fail
      go_ret
      exact ⟨⟨true, by simp, fun _ => ⟨rfl, rfl⟩, fun _ => rfl⟩, below_dn HB.out _⟩
    · have hf : (s.toList == x.toList) = false := by
        rw [beq_eq_false_iff_ne]
        exact fun e => hs (by rw [Lib.toList_data, Lib.toList_data] at e; exact ByteArray.ext (Array.toList_inj.1 e))
      go_wp2_with fail
      go_quiet (fail)
      go_wp2_with fail
      go_ret
      exact ⟨⟨false, by simp [hf], (fun h => by cases h), fun h => absurd h.2 hs⟩, below_dn HB.out _⟩
  · have hf : (q == (I : Int)) = false := by rw [beq_eq_false_iff_ne]; exact hq
    have hf2 : decide (q = (I : Int)) = false := decide_eq_false hq
    go_wp2_with fail
    go_quiet (fail)
    go_wp2_with fail
    go_ret
    exact ⟨⟨false, by simp [hf], (fun h => by cases h), fun h => absurd h.1 hq⟩, below_dn HB.out _⟩
set_option maxRecDepth 100000 in
set_option maxHeartbeats 4000000 in
theorem indexK_any (a : Option Addr) (cap : Nat) (l : List PkT) (ib tb I : Nat) (T : List ByteArray) (ta : Option Addr) (tc : Nat) (x : ByteArray) (w : World) (h : SAt 3 pkC w a l) (hl : l.length ≤ 60) (hC : Caught ib tb I T ta tc w) (hI : I < T.length) (hx : T[I] = x) (hn : T.length ≤ 9223372036854775807) :
    Calls Try.prog 60 #[.slice a l.length cap, .func (.func 29) #[] #[.pointer (some ⟨ib, 0, none⟩), .pointer (some ⟨tb, 0, none⟩)]] w (IxEnd w (HasAny I x l)) := by
  have HS := Lib.hid h
  have HC := Lib.hid fun p u (hb : Below w.heap.size w u) => front1_any p ib tb I T ta tc x u (hC.below hb) hI hx hn
  clear h hC hx hI hn
  go_enter Try.func60, Try.ntmps60
  go_wp2_with fail
  go_loopw [8] (fun iv wr => ∃ i : Nat, i ≤ l.length ∧ iv = .int .i64 (i : Int) ∧ Hid (Below w.heap.size w wr) ∧ Hid (∀ q (h : q < l.length), q < i → ¬ HasP I x l[q])) (fun iv _ => l.length - (intOf iv).toNat)
  case atStart => exact ⟨0, by omega, rfl, Lib.hid (Below.refl _ _), Lib.hid (fun q _ h => by omega)⟩
  case round =>
    obtain ⟨i, hi, rfl, HBR, HP⟩ := hrel
    have m0 : (0 : Int) ≤ (i : Int) := Int.natCast_nonneg _
    by_cases hil : i < l.length
    · have m1 : (i : Int) < (l.length : Int) := by omega
      obtain ⟨y, hy⟩ : ∃ y, l[i] = y := ⟨_, rfl⟩
      obtain ⟨g, off, rfl, hg, c0, c1, c2⟩ := SAt.packet (HS.out.below HBR.out) i hil y hy
      have HX := Lib.hid hy
      have HCX := Lib.hid (HC.out y _ HBR.out)
      obtain ⟨yk, yq, ys⟩ := y
      simp only at c0 c1 c2
      clear hy hg
      go_wp2_with fail
      refine HCX.out.mono ?_
      rintro e w1 ⟨⟨b, rfl, hbp⟩, hb1⟩
      have HB1 := Lib.hid (Below.step HBR.out hb1)
      have HBP := Lib.hid hbp
      clear hb1 hbp
      cases b with
      | true =>
        have HQ : Hid (HasAny I x l) := ⟨_, List.getElem_mem hil, by rw [HX.out]; exact HBP.out.1 rfl⟩
        go_wp2_with fail
        go_ret
        exact ⟨_, rfl, ⟨fun _ => HQ.out, fun _ => m0⟩, HB1.out⟩
      | false =>
        have HPN : Hid (∀ q (h : q < l.length), q < i + 1 → ¬ HasP I x l[q]) := fun q h1 h2 => by
          rcases Nat.lt_or_ge q i with h3 | h3
          · exact HP.out q h1 h3
          · obtain rfl : q = i := by omega
            rw [HX.out]
            exact fun h => by have := HBP.out.2 h; cases this
        go_wp2_with fail
        go_roundw
        case rel => exact ⟨i + 1, by omega, by go_num, HB1, HPN⟩
        case measure => simp [intOf]; omega
    · have m1 : ¬ (i : Int) < (l.length : Int) := by omega
      have HN : Hid (¬ HasAny I x l) := fun ⟨s, hs, hz⟩ => by
        obtain ⟨q, hq, rfl⟩ := List.mem_iff_getElem.1 hs
        exact HP.out q hq (by omega) hz
      go_wp2_with fail
      go_ret
      exact ⟨_, rfl, ⟨fun h => absurd h (by decide), fun h => absurd h HN.out⟩, HBR.out⟩
set_option maxRecDepth 100000 in
theorem containsK_any (a : Option Addr) (cap : Nat) (l : List PkT) (ib tb I : Nat) (T : List ByteArray) (ta : Option Addr) (tc : Nat) (x : ByteArray) (w : World) (h : SAt 3 pkC w a l) (hl : l.length ≤ 60) (hC : Caught ib tb I T ta tc w) (hI : I < T.length) (hx : T[I] = x) (hn : T.length ≤ 9223372036854775807) (hh : HasAny I x l) :
    Calls Try.prog 28 #[.slice a l.length cap, .func (.func 29) #[] #[.pointer (some ⟨ib, 0, none⟩), .pointer (some ⟨tb, 0, none⟩)]] w fun e w' => e = .returned (.bool true) ∧ Below w.heap.size w w' := by
  have HC := Lib.hid (indexK_any a cap l ib tb I T ta tc x w h hl hC hI hx hn)
  have HH := Lib.hid hh
  clear h hC hx hI hn hh
  go_enter Try.func28, Try.ntmps28
  go_wp2_with fail
  refine HC.out.mono ?_
  rintro e w1 ⟨r, rfl, hr, hb⟩
  have hr0 : 0 ≤ r := hr.2 HH.out
  have HB := Lib.hid hb
  clear hr hb
  go_wp2_with fail
  go_ret
  exact ⟨rfl, HB.out⟩
def BgEnd (w0 : World) (T : List ByteArray) (ta : Option Addr) (tc : Nat) (e : Ending) (w : World) : Prop := Below w0.heap.size w0 w ∧ ∃ wb ha hc, e = .returned (.pointer (some ⟨wb, 0, none⟩)) ∧ WSt w0.heap.size wb T (LSt.start T) ta tc ha hc none 0 none 0 none 0 w
set_option maxRecDepth 100000 in
set_option maxHeartbeats 1600000 in
theorem begun_any (ta : Option Addr) (tc : Nat) (T : List ByteArray) (w : World) (h : SAt 1 stC w ta T) (hT : Short T) : Calls Try.prog 25 #[.slice ta T.length tc] w (BgEnd w T ta tc) := by
  have HS := Lib.hid h
  have hmk := run_make_boolsL T.length (by have := hT.1; omega) w
  have hz : (zeroValue 57).run Try.prog w = .ok (.agg #[.slice none 0 0, .slice none 0 0, .int .i64 0, .slice none 0 0, .slice none 0 0, .slice none 0 0, .bool false]) w := by kernel_rfl
  clear h hT
  go_enter Try.func25, Try.ntmps25
  go_wp2_with fail
  go_ret
  have e1 := (Below.refl w.heap.size w).alloc (Nat.le_refl _) (.cells ((List.replicate T.length false).flatMap boC).toArray 4)
  have e2 := e1.alloc (by simp) (.cells #[.slice ta T.length tc, .slice (some ⟨w.heap.size, 0, none⟩) T.length T.length, .int .i64 0, .slice none 0 0, .slice none 0 0, .slice none 0 0, .bool false] 57)
  have hsz : (w.alloc (.cells ((List.replicate T.length false).flatMap boC).toArray 4)).heap.size = w.heap.size + 1 := by simp
  have hrow := heap_alloc_new (w.alloc (.cells ((List.replicate T.length false).flatMap boC).toArray 4)) (.cells #[.slice ta T.length tc, .slice (some ⟨w.heap.size, 0, none⟩) T.length T.length, .int .i64 0, .slice none 0 0, .slice none 0 0, .slice none 0 0, .bool false] 57)
  have hst := (sat_replicate T.length w).below ((Below.refl (w.alloc (.cells ((List.replicate T.length false).flatMap boC).toArray 4)).heap.size _).alloc (Nat.le_refl _) (.cells #[.slice ta T.length tc, .slice (some ⟨w.heap.size, 0, none⟩) T.length T.length, .int .i64 0, .slice none 0 0, .slice none 0 0, .slice none 0 0, .bool false] 57))
  rw [hsz] at hrow
  refine ⟨e2, w.heap.size + 1, some ⟨w.heap.size, 0, none⟩, T.length, rfl, ?_, ⟨HS.out.below e2, ?_⟩, ⟨hst, ?_⟩, ⟨fun i hi => absurd hi (Nat.not_lt_zero _), fun h => absurd rfl h⟩, ⟨fun i hi => absurd hi (Nat.not_lt_zero _), fun h => absurd rfl h⟩, World.ownsRow_nil _ _ _ _, Nat.le_succ _⟩
  · rw [hrow]
    simp [wayR, LSt.start]
  · intro hne ad e
    obtain ⟨g, off, e2, hg, _⟩ := HS.out 0 (List.length_pos_iff.2 hne)
    rw [e2] at e
    cases e
    exact ⟨by simp only; omega, fun nd e => by cases e⟩
  · intro _ ad e
    cases e
    exact ⟨by simp, fun nd e => by cases e⟩
abbrev aT : List ByteArray := [⟨#[97]⟩]
theorem aT_short : Short aT := ⟨by decide, fun s hs => by simp only [List.mem_singleton] at hs; subst hs; decide⟩
theorem aT_sat (w : World) : SAt 1 stC (w.alloc (.cells #[.string ⟨#[97]⟩] 9)) (some ⟨w.heap.size, 0, none⟩) aT := fun i hi => by
  obtain rfl : i = 0 := by simp at hi; exact hi
  refine ⟨w.heap.size, 0, rfl, lt_of_block (heap_alloc_new w _), fun j u hu => ?_⟩
  rw [cell_of_row _ _ _ _ _ _ (heap_alloc_new w _)]
  match j, hu with
  | 0, hu => exact hu
  | j + 1, hu => simp [stC] at hu
set_option maxRecDepth 100000 in
set_option maxHeartbeats 4000000 in
theorem lined_any (w : World) : Calls Try.prog 9 #[] w fun e w' => e = .returned (.bool true) ∧ Below w.heap.size w w' := by
  have HS := Lib.hid (aT_sat w)
  have HB := Lib.hid ((Below.refl w.heap.size w).alloc (Nat.le_refl _) (.cells #[.string ⟨#[97]⟩] 9))
  go_enter Try.func9, Try.ntmps9
  go_wp2_with fail
  refine (begun_any (some ⟨w.heap.size, 0, none⟩) 1 aT _ HS.out aT_short).mono ?_
  rintro e w2 ⟨hb2, wb, ha, hc, rfl, hW2⟩
  have HW2 := Lib.hid hW2
  have HB2 := Lib.hid (Below.step HB.out hb2)
  clear hW2 hb2
  go_wp2_with fail
  refine (step_any _ wb aT 0 (by decide) (by decide) 0 rfl (LSt.start aT) _ _ _ _ _ _ _ _ _ _ w2 HW2.out (LSt.start_ok aT) aT_short (Nat.zero_le _)).mono ?_
  rintro e w3 ⟨rfl, hb3, s3, ta3, tc3, ha3, hc3, ga3, gc3, la3, lc3, na3, nc3, hm3, hW3⟩
  have HM3 : Hid (Moved (⟨#[]⟩ : ByteArray) aT 0 (LSt.start aT) s3) := hm3
  have HW3 := Lib.hid hW3
  have HB3 := Lib.hid (HB2.out.trans (hb3.mono HB.out.size))
  have hq : ((s3.net.length : Int) != 1) = false := by rw [lined_sent HM3.out]; rfl
  clear hm3 hW3 hb3
  have r5 := cell_of_row _ _ 5 _ _ _ HW3.out.row
  simp only [List.getElem?_toArray, List.getElem?_cons_succ, List.getElem?_cons_zero] at r5
  go_wp2_with fail
  refine (step_any _ wb aT 8 (by decide) (by decide) 8 rfl s3 _ _ _ _ _ _ _ _ _ _ w3 HW3.out (HM3.out.ok (LSt.start_ok aT)).1 aT_short (by rw [lined_sent HM3.out]; decide)).mono ?_
  rintro e w4 ⟨rfl, hb4, s4, ta4, tc4, ha4, hc4, ga4, gc4, la4, lc4, na4, nc4, hm4, hW4⟩
  have HG : Hid (s4.got = aT) := lined_got HM3.out hm4
  have HW4 := Lib.hid hW4
  have HB4 := Lib.hid (HB3.out.trans (hb4.mono HB.out.size))
  clear hm4 hW4 hb4 r5 hq
  have r3 := cell_of_row _ _ 3 _ _ _ HW4.out.row
  simp only [List.getElem?_toArray, List.getElem?_cons_succ, List.getElem?_cons_zero] at r3
  have HBA := Lib.hid ((Below.refl w4.heap.size w4).alloc (Nat.le_refl _) (.cells #[.string ⟨#[97]⟩] 9))
  go_wp2_with fail
  refine (eqS_any ga4 (some ⟨w4.heap.size, 0, none⟩) gc4 1 s4.got aT _ (HW4.out.g.1.below HBA.out) (aT_sat w4) (by rw [HG.out]; decide) (by decide)).mono ?_
  rintro e w5 ⟨rfl, q, rfl⟩
  have hd : decide (s4.got = aT) = true := decide_eq_true HG.out
  go_wp2_with fail
  go_ret
  exact ⟨rfl, below_dn (Below.step HB4.out HBA.out) _⟩
end Go.Proofs.Ytinjnclpiiohcaa
