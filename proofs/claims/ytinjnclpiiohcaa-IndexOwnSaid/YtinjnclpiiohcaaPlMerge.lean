/- The walk of index.Merge. -/
import Derived.Test.YtinjnclpiiohcaaPlSorted
import Derived.Test.YtinjnclpiiohcaaPlConcat
namespace Go.Proofs.Ytinjnclpiiohcaa
open Go.RowKit Plain
set_option linter.unusedVariables false
theorem below_down {A B : Nat} {w w' : World} (h : Below B w w') (hA : A ≤ B) : Below A w w' := ⟨h.os, h.tape, h.output, h.size, fun k hk => h.block k (Nat.lt_of_lt_of_le hk hA)⟩
/-- what a merge leaves -/
def MgRes (l m : List Pl) (v : Value) (c : Nat) (w : World) : Prop :=
  (¬ (xOk l ∧ xOk m) ∧ c ≠ 0 ∧ v = .slice none 0 0) ∨
  (xOk l ∧ xOk m ∧ ∃ r : List Pl, Srt icP cfP (l ++ m) r ∧ r.length ≤ l.length + m.length ∧ ((400 < r.length ∧ c = 2 ∧ v = .slice none 0 0) ∨ (r.length ≤ 400 ∧ c = 0 ∧ ∃ a k, v = .slice a r.length k ∧ SAt 12 plC w a r)))
theorem MgRes.below {l m : List Pl} {v : Value} {c : Nat} {w w' : World} (h : MgRes l m v c w) (hb : Below w.heap.size w w') : MgRes l m v c w' := by
  rcases h with h | ⟨h1, h2, r, h3, h3', h4 | ⟨h5, h6, a, k, h7, h8⟩⟩
  · exact .inl h
  · exact .inr ⟨h1, h2, r, h3, h3', .inl h4⟩
  · exact .inr ⟨h1, h2, r, h3, h3', .inr ⟨h5, h6, a, k, h7, h8.below hb⟩⟩
/-- a slice that lies in a block of the call's own, or nowhere -/
def FrV (B : Nat) (v : Value) : Prop := ∀ ad n k, v = .slice (some ad) n k → B ≤ ad.block
theorem frv_nil (B n k : Nat) : FrV B (.slice none n k) := fun ad n' k' h => by cases h
theorem frv_own {w : World} {B base : Nat} {v : Value} {T : TypeId} {k n : Nat} {xs : List Value} (h : w.ownsRow base T k v n xs) (hB : B ≤ base) : FrV B v := by
  intro ad n' k' hv
  rcases h.2 with ⟨h0, _⟩ | ⟨g, c', cur, h0, hbg, _⟩
  · rw [h0] at hv; cases hv
  · rw [h0] at hv
    injection hv with hv _ _
    injection hv with hv
    subst hv
    exact Nat.le_trans hB hbg
def MgEndF (w0 : World) (l m : List Pl) (e : Ending) (w : World) : Prop := Below w0.heap.size w0 w ∧ ∃ v c, e = .returned (.tuple #[v, .int .i64 ((c : Nat) : Int)]) ∧ MgRes l m v c w ∧ FrV w0.heap.size v
def MgEnd (w0 : World) (l m : List Pl) (e : Ending) (w : World) : Prop := Below w0.heap.size w0 w ∧ ∃ v c, e = .returned (.tuple #[v, .int .i64 ((c : Nat) : Int)]) ∧ MgRes l m v c w
theorem own_satP {w : World} {base : Nat} {a : Option Addr} {n c : Nat} {l : List Pl} {T : TypeId} (hn : n = l.length) (h : w.ownsRow base T 12 (.slice a n c) n (l.flatMap plC)) : SAt 12 plC w a l := by
  subst hn
  obtain ⟨a', c', e1, _, _, h⟩ := SAt.own h plC_length
  injection e1 with e1 _ _
  subst e1
  exact h
set_option maxRecDepth 100000 in
set_option maxHeartbeats 2000000 in
theorem mergeF_any (a b : Option Addr) (ca cb : Nat) (l m : List Pl) (w : World) (hl : SAt 12 plC w a l) (hm : SAt 12 plC w b m) (nl : l.length ≤ 9223372036854775807) (nm : m.length ≤ 9223372036854775807) (bl : ∀ p ∈ l, ∀ c ∈ idL p.1, c < 256) (bm : ∀ p ∈ m, ∀ c ∈ idL p.1, c < 256) :
    Calls Try.prog 31 #[.slice a l.length ca, .slice b m.length cb] w (MgEndF w l m) := by
  have HL := Lib.hid hl
  have HM := Lib.hid hm
  have HC1 := Lib.hid fun u h => xcheck_any a ca l u h nl bl
  have HC2 := Lib.hid fun u h => xcheck_any b cb m u h nm bm
  have HCC := Lib.hid fun g T u h1 h2 h3 h4 => concatP_any g T a b ca cb l m u h1 h2 h3 h4
  have HSO := Lib.hid fun base a c (x : List Pl) u h1 h2 h3 => sorted_any base a c x u h1 h2 h3
  have HCL := Lib.hid fun a c (x : List Pl) u h1 h2 => cloneP_any a c x u h1 h2
  have HBL := Lib.hid bl
  have HBM := Lib.hid bm
  have HROW := Lib.hid (heap_alloc_new w (.cells #[.slice a l.length ca, .slice b m.length cb] 63))
  have HB0 := Lib.hid ((Below.refl w.heap.size w).alloc (Nat.le_refl _) (.cells #[.slice a l.length ca, .slice b m.length cb] 63))
  clear hl hm bl bm
  go_enter Try.func31, Try.ntmps31
  go_wp2_with fail
  go_loopw [14] (fun iv wr => ∃ i : Int, Hid ((i = 0) ∨ (i = 1 ∧ xOk l) ∨ (i = 2 ∧ xOk l ∧ xOk m)) ∧ iv = .int .i64 i ∧ Hid (Below w.heap.size w wr) ∧ Hid (wr.heap[w.heap.size]? = some (.cells #[.slice a l.length ca, .slice b m.length cb] 63 (0, 0)))) (fun iv _ => 2 - (intOf iv).toNat)
  case atStart => exact ⟨0, Lib.hid (.inl rfl), rfl, HB0, HROW⟩
  case round =>
    obtain ⟨i, hi, rfl, HBR, HRW⟩ := hrel
    have hi := hi.out
    have q0 := cell_of_row _ _ 0 _ _ _ HRW.out
    have q1 := cell_of_row _ _ 1 _ _ _ HRW.out
    simp only [List.getElem?_toArray, List.getElem?_cons_succ, List.getElem?_cons_zero] at q0 q1
    rcases hi with rfl | ⟨rfl, hx⟩ | ⟨rfl, hx, hy⟩
    · go_wp2_with fail
      refine (HC1.out _ (HL.out.below HBR.out)).mono ?_
      rintro e w1 ⟨c, rfl, hc, hb⟩
      have HB1 := Lib.hid (Below.step HBR.out hb)
      have HR1 := Lib.hid ((hb.block _ (lt_of_block HRW.out)).trans HRW.out)
      clear hb q0 q1
      by_cases hc0 : c = 0
      · have HX := Lib.hid (hc.1 hc0)
        subst hc0
        clear hc
        go_wp2_with fail
        go_roundw
        case rel => exact ⟨1, Lib.hid (.inr (.inl ⟨rfl, HX.out⟩)), by first | rfl | go_num, HB1, HR1⟩
        case measure => simp [intOf]
      · have f2 : (((c : Nat) : Int) != 0) = true := by simpa using hc0
        have HN : Hid (¬ xOk l) := fun h => hc0 (hc.2 h)
        have HC0 := Lib.hid hc0
        clear hc hc0
        go_wp2_with fail
        go_ret2
        exact ⟨HB1.out, _, c, rfl, .inl ⟨fun h => HN.out h.1, HC0.out, rfl⟩, frv_nil _ _ _⟩
    · have HXL := Lib.hid hx
      clear hx
      go_wp2_with fail
      refine (HC2.out _ (HM.out.below HBR.out)).mono ?_
      rintro e w1 ⟨c, rfl, hc, hb⟩
      have HB1 := Lib.hid (Below.step HBR.out hb)
      have HR1 := Lib.hid ((hb.block _ (lt_of_block HRW.out)).trans HRW.out)
      clear hb q0 q1
      by_cases hc0 : c = 0
      · have HX := Lib.hid (hc.1 hc0)
        subst hc0
        clear hc
        go_wp2_with fail
        go_roundw
        case rel => exact ⟨2, Lib.hid (.inr (.inr ⟨rfl, HXL.out, HX.out⟩)), by first | rfl | go_num, HB1, HR1⟩
        case measure => simp [intOf]
      · have f2 : (((c : Nat) : Int) != 0) = true := by simpa using hc0
        have HN : Hid (¬ xOk m) := fun h => hc0 (hc.2 h)
        have HC0 := Lib.hid hc0
        clear hc hc0
        go_wp2_with fail
        go_ret2
        exact ⟨HB1.out, _, c, rfl, .inl ⟨fun h => HN.out h.2, HC0.out, rfl⟩, frv_nil _ _ _⟩
    · have HXL := Lib.hid hx
      have HXM := Lib.hid hy
      have h1 := hx.1
      have h2 := hy.1
      clear hx hy q0 q1
      have HBN := Lib.hid (HBR.out.alloc HBR.out.size (.cells #[.slice a l.length ca, .slice b m.length cb] 63))
      have HRN := Lib.hid (heap_alloc_new wr (.cells #[.slice a l.length ca, .slice b m.length cb] 63))
      go_wp2_with fail
      refine (HCC.out _ _ _ HRN.out (HL.out.below HBN.out) (HM.out.below HBN.out) (by omega)).mono ?_
      rintro e w1 ⟨hb1, a1, c1, rfl, hown⟩
      have HB1 := Lib.hid (Below.step HBN.out hb1)
      have HGE := Lib.hid hb1.size
      have HBS : Hid (w.heap.size ≤ (wr.alloc (.cells #[.slice a l.length ca, .slice b m.length cb] 63)).heap.size) := HBN.out.size
      have HST := Lib.hid (HSO.out _ _ _ _ _ hown (by rw [List.length_append]; omega) (fun p hp => by
        rcases List.mem_append.1 hp with hp | hp
        · exact HBL.out p hp
        · exact HBM.out p hp))
      rw [List.length_append] at HST
      clear hb1 hown
      go_wp2_with fail
      refine HST.out.mono ?_
      rintro e w2 ⟨hb2, r, a2, c2, hsrt, hlen, rfl, hown⟩
      have HB2 := Lib.hid (HB1.out.trans (below_down hb2 HBS.out))
      have HSR := Lib.hid hsrt
      have HLN := Lib.hid hlen
      rw [List.length_append] at hlen
      have HSA := Lib.hid (own_satP rfl hown)
      clear hb2 hsrt hown HST
      by_cases h400 : r.length ≤ 400
      · have m4 : ¬ ((r.length : Int) > 400) := by omega
        go_wp2_with fail
        refine (HCL.out a2 c2 r _ HSA.out (by omega)).mono ?_
        rintro e w3 ⟨hb3, a3, c3, rfl, hown⟩
        have HB3 := Lib.hid (Below.step HB2.out hb3)
        have HS3 := Lib.hid (own_satP rfl hown)
        have HFR := Lib.hid (frv_own hown HB2.out.size)
        clear hb3 hown
        go_wp2_with fail
        go_ret2
        exact ⟨HB3.out, _, 0, rfl, .inr ⟨HXL.out, HXM.out, r, HSR.out, by have := HLN.out; rw [List.length_append] at this; exact this, .inr ⟨h400, rfl, a3, c3, rfl, HS3.out⟩⟩, HFR.out⟩
      · have m4 : ((r.length : Int) > 400) := by omega
        go_wp2_with fail
        go_ret2
        exact ⟨HB2.out, _, 2, rfl, .inr ⟨HXL.out, HXM.out, r, HSR.out, by have := HLN.out; rw [List.length_append] at this; exact this, .inl ⟨by omega, rfl, rfl⟩⟩, frv_nil _ _ _⟩
theorem merge_any (a b : Option Addr) (ca cb : Nat) (l m : List Pl) (w : World) (hl : SAt 12 plC w a l) (hm : SAt 12 plC w b m) (nl : l.length ≤ 9223372036854775807) (nm : m.length ≤ 9223372036854775807) (bl : ∀ p ∈ l, ∀ c ∈ idL p.1, c < 256) (bm : ∀ p ∈ m, ∀ c ∈ idL p.1, c < 256) :
    Calls Try.prog 31 #[.slice a l.length ca, .slice b m.length cb] w (MgEnd w l m) := by
  refine (mergeF_any a b ca cb l m w hl hm nl nm bl bm).mono ?_
  rintro e w' ⟨hb, v, c, rfl, h, _⟩
  exact ⟨hb, v, c, rfl, h⟩
end Go.Proofs.Ytinjnclpiiohcaa
