/- The walk of index.Of. -/
import Derived.Test.YtinjnclpiiohcaaPlSorted
import Derived.Test.YtinjnclpiiohcaaPlMerge
namespace Go.Proofs.Ytinjnclpiiohcaa
open Go.RowKit Plain
set_option linter.unusedVariables false
set_option linter.unusedSimpArgs false
/-- an entry: identifier, kind, at, length -/
abbrev En := ID8 × Int × Int × Int
def enC (p : En) : List Value := (idL p.1).map bV ++ [.int .i64 p.2.1, .int .i64 p.2.2.1, .int .i64 p.2.2.2]
theorem enC_length (p : En) : (enC p).length = 11 := rfl
def mkP (n : Int) (e : En) : Pl := (e.1, e.2.1, n, e.2.2.1, e.2.2.2)
theorem SAt.entry {w : World} {a : Option Addr} {l : List En} (h : SAt 11 enC w a l) (i : Nat) (hi : i < l.length) (p : En) (hp : l[i] = p) : ∃ g off, a = some ⟨g, off, none⟩ ∧ g < w.heap.size ∧
    w.cell? ⟨g, off + i * 11, none⟩ = some (bV p.1.1) ∧ w.cell? ⟨g, off + i * 11 + 1, none⟩ = some (bV p.1.2.1) ∧ w.cell? ⟨g, off + i * 11 + 2, none⟩ = some (bV p.1.2.2.1) ∧ w.cell? ⟨g, off + i * 11 + 3, none⟩ = some (bV p.1.2.2.2.1) ∧
    w.cell? ⟨g, off + i * 11 + 4, none⟩ = some (bV p.1.2.2.2.2.1) ∧ w.cell? ⟨g, off + i * 11 + 5, none⟩ = some (bV p.1.2.2.2.2.2.1) ∧ w.cell? ⟨g, off + i * 11 + 6, none⟩ = some (bV p.1.2.2.2.2.2.2.1) ∧ w.cell? ⟨g, off + i * 11 + 7, none⟩ = some (bV p.1.2.2.2.2.2.2.2) ∧
    w.cell? ⟨g, off + i * 11 + 8, none⟩ = some (.int .i64 p.2.1) ∧ w.cell? ⟨g, off + i * 11 + 9, none⟩ = some (.int .i64 p.2.2.1) ∧ w.cell? ⟨g, off + i * 11 + 10, none⟩ = some (.int .i64 p.2.2.2) := by
  obtain ⟨g, off, e, hg, hr⟩ := h i hi
  subst hp
  exact ⟨g, off, e, hg, hr 0 _ rfl, hr 1 _ rfl, hr 2 _ rfl, hr 3 _ rfl, hr 4 _ rfl, hr 5 _ rfl, hr 6 _ rfl, hr 7 _ rfl, hr 8 _ rfl, hr 9 _ rfl, hr 10 _ rfl⟩
def ofOk (n : Int) (l : List En) : Prop := rOk n ∧ l.length ≤ 400 ∧ ∀ e ∈ l, pOk (mkP n e)
/-- what Of leaves, told by its two results as a list and a code -/
def OfP (n : Int) (l : List En) (x : List Pl) (c : Nat) : Prop := (¬ ofOk n l ∧ c ≠ 0 ∧ x = []) ∨ (ofOk n l ∧ c = 0 ∧ Srt icP cfP (l.map (mkP n)) x ∧ x.length ≤ l.length)
def OfEnd (w0 : World) (n : Int) (l : List En) (e : Ending) (w : World) : Prop := Below w0.heap.size w0 w ∧ ∃ (x : List Pl) (y : Option Addr) (k c : Nat), e = .returned (.tuple #[.slice y x.length k, .int .i64 (c : Int)]) ∧ SAt 12 plC w y x ∧ x.length ≤ 400 ∧ OfP n l x c
def OfEndF (w0 : World) (n : Int) (l : List En) (e : Ending) (w : World) : Prop := Below w0.heap.size w0 w ∧ ∃ (x : List Pl) (y : Option Addr) (k c : Nat), e = .returned (.tuple #[.slice y x.length k, .int .i64 (c : Int)]) ∧ SAt 12 plC w y x ∧ x.length ≤ 400 ∧ OfP n l x c ∧ FrV w0.heap.size (.slice y x.length k)
set_option maxRecDepth 100000 in
set_option maxHeartbeats 4000000 in
theorem ofF_any (n : Int) (a : Option Addr) (cap : Nat) (l : List En) (w : World) (h : SAt 11 enC w a l) (hl : l.length ≤ 9223372036854775807) (hlt : ∀ p ∈ l, ∀ c ∈ idL p.1, c < 256) :
    Calls Try.prog 37 #[.int .i64 n, .slice a l.length cap] w (OfEndF w n l) := by
  obtain ⟨i0, hi0, hz0, hz1, hz2⟩ := info_plM
  have HS := Lib.hid h
  have HLT := Lib.hid hlt
  have HR := Lib.hid fun u => inRange_any n u
  have HP := Lib.hid fun p u => place_any p u
  have HSO := Lib.hid fun base a c (x : List Pl) u h1 h2 h3 => sorted_any base a c x u h1 h2 h3
  clear h hlt
  by_cases hn : rOk n
  · rw [decide_eq_true hn] at HR
    have HNO := Lib.hid hn
    clear hn
    by_cases h400 : l.length ≤ 400
    · have f1 : decide ((l.length : Int) > 400) = false := decide_eq_false (by omega)
      have f1' : ¬ ((l.length : Int) > 400) := by omega
      go_enter Try.func37, Try.ntmps37
      go_wp2_with fail
      refine (HR.out _).mono ?_
      rintro e w1 ⟨rfl, rfl⟩
      go_wp2_with fail
      go_loopw [6, 21] (fun ov iv wr => ∃ (i : Nat) (oa : Option Addr) (oc : Nat), i ≤ l.length ∧ ov = .slice oa i oc ∧ iv = .int .i64 (i : Int) ∧ Hid (Below w1.heap.size w1 wr) ∧ Hid (∀ e ∈ l.take i, pOk (mkP n e)) ∧ Hid (wr.ownsRow w1.heap.size 69 12 (.slice oa i oc) i (((l.take i).map (mkP n)).flatMap plC))) (fun _ iv _ => l.length - (intOf iv).toNat)
      case atStart => exact ⟨0, none, 0, by omega, rfl, rfl, Lib.hid (Below.refl _ _), Lib.hid (by simp), Lib.hid (World.ownsRow_nil _ _ _ _)⟩
      case round =>
        obtain ⟨i, oa, oc, hi, rfl, rfl, HBR, HOK, HOW⟩ := hrel
        by_cases hil : i < l.length
        · have m1 : (i : Int) < (l.length : Int) := by omega
          obtain ⟨p, hp⟩ : ∃ p, l[i] = p := ⟨_, rfl⟩
          obtain ⟨g, off, rfl, hg, k0, k1, k2, k3, k4, k5, k6, k7, k8, k9, k10⟩ := (HS.out.below HBR.out).entry i hil p hp
          have HMEM : Hid (p ∈ l) := by show _ ∈ _; rw [← hp]; exact List.getElem_mem hil
          have HTK : Hid (l.take (i + 1) = l.take i ++ [p]) := by show _ = _; rw [List.take_succ_eq_append_getElem hil, hp]
          clear hp hg
          obtain ⟨⟨b0, b1, b2, b3, b4, b5, b6, b7⟩, k, q, z⟩ := p
          simp only [bV] at k0 k1 k2 k3 k4 k5 k6 k7 k8 k9 k10
          go_wp2_with fail
          have HPP := HP.out ((b0, b1, b2, b3, b4, b5, b6, b7), k, n, q, z) ((wr.alloc (.cells #[.int .u8 (b0 : Int), .int .u8 (b1 : Int), .int .u8 (b2 : Int), .int .u8 (b3 : Int), .int .u8 (b4 : Int), .int .u8 (b5 : Int), .int .u8 (b6 : Int), .int .u8 (b7 : Int), .int .i64 k, .int .i64 q, .int .i64 z] 78)).alloc (.cells #[.int .u8 (b0 : Int), .int .u8 (b1 : Int), .int .u8 (b2 : Int), .int .u8 (b3 : Int), .int .u8 (b4 : Int), .int .u8 (b5 : Int), .int .u8 (b6 : Int), .int .u8 (b7 : Int), .int .i64 k, .int .i64 n, .int .i64 q, .int .i64 z] 69))
          have hnew := heap_alloc_new (wr.alloc (.cells #[.int .u8 (b0 : Int), .int .u8 (b1 : Int), .int .u8 (b2 : Int), .int .u8 (b3 : Int), .int .u8 (b4 : Int), .int .u8 (b5 : Int), .int .u8 (b6 : Int), .int .u8 (b7 : Int), .int .i64 k, .int .i64 q, .int .i64 z] 78)) (.cells #[.int .u8 (b0 : Int), .int .u8 (b1 : Int), .int .u8 (b2 : Int), .int .u8 (b3 : Int), .int .u8 (b4 : Int), .int .u8 (b5 : Int), .int .u8 (b6 : Int), .int .u8 (b7 : Int), .int .i64 k, .int .i64 n, .int .i64 q, .int .i64 z] 69)
          have HBA := Lib.hid ((HBR.out.alloc HBR.out.size (.cells #[.int .u8 (b0 : Int), .int .u8 (b1 : Int), .int .u8 (b2 : Int), .int .u8 (b3 : Int), .int .u8 (b4 : Int), .int .u8 (b5 : Int), .int .u8 (b6 : Int), .int .u8 (b7 : Int), .int .i64 k, .int .i64 q, .int .i64 z] 78)).alloc (by have := HBR.out.size; simp; omega) (.cells #[.int .u8 (b0 : Int), .int .u8 (b1 : Int), .int .u8 (b2 : Int), .int .u8 (b3 : Int), .int .u8 (b4 : Int), .int .u8 (b5 : Int), .int .u8 (b6 : Int), .int .u8 (b7 : Int), .int .i64 k, .int .i64 n, .int .i64 q, .int .i64 z] 69))
          have HOA := Lib.hid (own_belowK (own_belowK HOW.out ((Below.refl _ _).alloc (Nat.le_refl _) (.cells #[.int .u8 (b0 : Int), .int .u8 (b1 : Int), .int .u8 (b2 : Int), .int .u8 (b3 : Int), .int .u8 (b4 : Int), .int .u8 (b5 : Int), .int .u8 (b6 : Int), .int .u8 (b7 : Int), .int .i64 k, .int .i64 q, .int .i64 z] 78))) ((Below.refl _ _).alloc (Nat.le_refl _) (.cells #[.int .u8 (b0 : Int), .int .u8 (b1 : Int), .int .u8 (b2 : Int), .int .u8 (b3 : Int), .int .u8 (b4 : Int), .int .u8 (b5 : Int), .int .u8 (b6 : Int), .int .u8 (b7 : Int), .int .i64 k, .int .i64 n, .int .i64 q, .int .i64 z] 69)))
          have HSZ : Hid (w1.heap.size ≤ wr.heap.size) := HBR.out.size
          unfold plV at HPP
          simp only [plC, idL, List.map_cons, List.map_nil, List.cons_append, List.nil_append, bV] at HPP
          refine HPP.mono ?_
          rintro e w2 ⟨c, rfl, hc, hb1⟩
          have hsz1 : (wr.alloc (.cells #[.int .u8 (b0 : Int), .int .u8 (b1 : Int), .int .u8 (b2 : Int), .int .u8 (b3 : Int), .int .u8 (b4 : Int), .int .u8 (b5 : Int), .int .u8 (b6 : Int), .int .u8 (b7 : Int), .int .i64 k, .int .i64 q, .int .i64 z] 78)).heap.size = wr.heap.size + 1 := by simp
          rw [hsz1] at hnew
          have HNEW := Lib.hid ((hb1.block _ (by simp)).trans hnew)
          clear hsz1
          have HB1 := Lib.hid (Below.step HBA.out hb1)
          have HO1 := Lib.hid (own_belowK HOA.out hb1)
          have HSZ2 := Lib.hid hb1.size
          clear hb1 hnew HPP HBA HOA k0 k1 k2 k3 k4 k5 k6 k7 k8 k9 k10
          by_cases hc0 : c = 0
          · have HPO := Lib.hid (hc.1 hc0)
            subst hc0
            clear hc
            have HLE : Hid (∀ e ∈ l.take (i + 1), pOk (mkP n e)) := by
              intro e he
              rw [HTK.out] at he
              rcases List.mem_append.1 he with he | he
              · exact HOK.out e he
              · simp only [List.mem_singleton] at he
                subst he
                exact HPO.out
            have r0 := cell_of_row _ _ 0 _ _ _ HNEW.out
            have r1 := cell_of_row _ _ 1 _ _ _ HNEW.out
            have r2 := cell_of_row _ _ 2 _ _ _ HNEW.out
            have r3 := cell_of_row _ _ 3 _ _ _ HNEW.out
            have r4 := cell_of_row _ _ 4 _ _ _ HNEW.out
            have r5 := cell_of_row _ _ 5 _ _ _ HNEW.out
            have r6 := cell_of_row _ _ 6 _ _ _ HNEW.out
            have r7 := cell_of_row _ _ 7 _ _ _ HNEW.out
            have r8 := cell_of_row _ _ 8 _ _ _ HNEW.out
            have r9 := cell_of_row _ _ 9 _ _ _ HNEW.out
            have r10 := cell_of_row _ _ 10 _ _ _ HNEW.out
            have r11 := cell_of_row _ _ 11 _ _ _ HNEW.out
            simp only [List.getElem?_toArray, List.getElem?_cons_zero, List.getElem?_cons_succ] at r0 r1 r2 r3 r4 r5 r6 r7 r8 r9 r10 r11
            have D1 := Lib.hid (cells_new_at w2 w2.heap.size rfl #[.int .u8 (b0 : Int), .int .u8 (b1 : Int), .int .u8 (b2 : Int), .int .u8 (b3 : Int), .int .u8 (b4 : Int), .int .u8 (b5 : Int), .int .u8 (b6 : Int), .int .u8 (b7 : Int), .int .i64 k, .int .i64 n, .int .i64 q, .int .i64 z] 69 (plC ((b0, b1, b2, b3, b4, b5, b6, b7), k, n, q, z)) rfl)
            have HONE := Lib.hid (plC_one ((b0, b1, b2, b3, b4, b5, b6, b7), k, n, q, z))
            have D3 : Hid (i + 1 ≤ maxLen) := by show _ ≤ _; unfold maxLen; omega
            have D4 : Hid ((i + 1) * 40 ≤ 140737488355328) := by show _ ≤ _; omega
            have D5 : Hid (w1.heap.size ≤ (w2.alloc (.cells #[.int .u8 (b0 : Int), .int .u8 (b1 : Int), .int .u8 (b2 : Int), .int .u8 (b3 : Int), .int .u8 (b4 : Int), .int .u8 (b5 : Int), .int .u8 (b6 : Int), .int .u8 (b7 : Int), .int .i64 k, .int .i64 n, .int .i64 q, .int .i64 z] 69)).heap.size) := by show _ ≤ _; have := HB1.out.size; simp; omega
            go_wp2_with (at_builtin; refine wpList_append_own _ rfl _ _ 63 rfl w1.heap.size 69 i0 (.agg (plC ((0, 0, 0, 0, 0, 0, 0, 0), 0, 0, 0, 0)).toArray) 12 40 Try.underlying63 hi0 hz0 hz1 hz2 rfl (by decide) _ _ _ rfl (HO1.out.alloc _) ⟨w2.heap.size, 0, none⟩ 1 1 (plC ((b0, b1, b2, b3, b4, b5, b6, b7), k, n, q, z)) rfl rfl D1.out HONE.out D3.out D4.out D5.out ?_)
            intro v' w3 hown' hgrow _
            have BW := Lib.hid (below_own (HB1.out.alloc HB1.out.size (.cells #[.int .u8 (b0 : Int), .int .u8 (b1 : Int), .int .u8 (b2 : Int), .int .u8 (b3 : Int), .int .u8 (b4 : Int), .int .u8 (b5 : Int), .int .u8 (b6 : Int), .int .u8 (b7 : Int), .int .i64 k, .int .i64 n, .int .i64 q, .int .i64 z] 69)) hgrow D5.out (HO1.out.alloc _) (Nat.le_refl _))
            obtain ⟨oa2, oc2, rfl⟩ := own_formK hown'
            have OW : Hid (w3.ownsRow w1.heap.size 69 12 (.slice oa2 (i + 1) oc2) (i + 1) (((l.take (i + 1)).map (mkP n)).flatMap plC)) := by
              show w3.ownsRow _ _ _ _ _ _
              rw [HTK.out, List.map_append, List.flatMap_append, List.map_take]
              exact hown'
            clear hown' hgrow r0 r1 r2 r3 r4 r5 r6 r7 r8 r9 r10 r11
            go_wp2_with fail
            go_roundw
            case rel => exact ⟨i + 1, oa2, oc2, by omega, rfl, by go_num, BW, HLE, OW⟩
            case measure => simp [intOf]; omega
          · have f2 : (((c : Nat) : Int) != 0) = true := by simpa using hc0
            have HN : Hid (¬ ofOk n l) := fun h => hc0 (hc.2 (h.2.2 _ HMEM.out))
            have HC0 := Lib.hid hc0
            clear hc hc0
            go_wp2_with fail
            go_ret2
            exact ⟨HB1.out, [], none, 0, c, rfl, SAt.nil, by simp, .inl ⟨HN.out, HC0.out, rfl⟩, frv_nil _ _ _⟩
        · have m1 : ¬ (i : Int) < (l.length : Int) := by omega
          obtain rfl : i = l.length := by omega
          have hown := HOW.out
          have hok := HOK.out
          rw [List.take_of_length_le (Nat.le_refl _)] at hown hok
          have HSS := Lib.hid (HSO.out w1.heap.size oa oc (l.map (mkP n)) wr (by rw [List.length_map]; exact hown) (by rw [List.length_map]; omega) (fun p hp => by
            obtain ⟨e, he, rfl⟩ := List.mem_map.1 hp
            exact HLT.out e he))
          rw [List.length_map] at HSS
          have HOO := Lib.hid hok
          clear hown hok
          go_wp2_with fail
          refine HSS.out.mono ?_
          rintro e w2 ⟨hb2, r, a2, c2, hsrt, hlen, rfl, hown⟩
          have HB2 := Lib.hid (HBR.out.trans hb2)
          have HSR := Lib.hid hsrt
          rw [List.length_map] at hlen
          have HSA := Lib.hid (own_satP rfl hown)
          have HFR := Lib.hid (frv_own hown (Nat.le_refl _))
          clear hb2 hsrt hown HSS
          go_wp2_with fail
          go_ret2
          exact ⟨HB2.out, r, a2, c2, 0, rfl, HSA.out, by omega, .inr ⟨⟨HNO.out, h400, HOO.out⟩, rfl, HSR.out, hlen⟩, HFR.out⟩
    · have f1 : decide ((l.length : Int) > 400) = true := decide_eq_true (by omega)
      have f1' : ((l.length : Int) > 400) := by omega
      have HN : Hid (¬ ofOk n l) := fun h => h400 h.2.1
      clear h400
      go_enter Try.func37, Try.ntmps37
      go_wp2_with fail
      refine (HR.out _).mono ?_
      rintro e w1 ⟨rfl, rfl⟩
      go_wp2_with fail
      go_ret2
      exact ⟨Below.refl _ _, [], none, 0, 2, rfl, SAt.nil, by simp, .inl ⟨HN.out, by decide, rfl⟩, frv_nil _ _ _⟩
  · rw [decide_eq_false hn] at HR
    have HN : Hid (¬ ofOk n l) := fun h => hn h.1
    clear hn
    go_enter Try.func37, Try.ntmps37
    go_wp2_with fail
    refine (HR.out _).mono ?_
    rintro e w1 ⟨rfl, rfl⟩
    go_wp2_with fail
    go_ret2
    exact ⟨Below.refl _ _, [], none, 0, 1, rfl, SAt.nil, by simp, .inl ⟨HN.out, by decide, rfl⟩, frv_nil _ _ _⟩
theorem of_any (n : Int) (a : Option Addr) (cap : Nat) (l : List En) (w : World) (h : SAt 11 enC w a l) (hl : l.length ≤ 9223372036854775807) (hlt : ∀ p ∈ l, ∀ c ∈ idL p.1, c < 256) :
    Calls Try.prog 37 #[.int .i64 n, .slice a l.length cap] w (OfEnd w n l) := by
  refine (ofF_any n a cap l w h hl hlt).mono ?_
  rintro e w' ⟨hb, x, y, k, c, rfl, h1, h2, h3, _⟩
  exact ⟨hb, x, y, k, c, rfl, h1, h2, h3⟩
end Go.Proofs.Ytinjnclpiiohcaa
