/- waste.Choose. -/
import Derived.Test.YtpfmfigommmjiaaWasteW
import Derived.Test.YtpfmfigommmjiaaSortRow
import Derived.Test.YtpfmfigommmjiaaOwnForm
namespace Go.Proofs.Ytpfmfigommmjiaa
open Go.RowKit Plain
set_option linter.unusedVariables false
set_option linter.unusedSimpArgs false
theorem info_intW : (Try.prog.info? 3).map (fun i => (i.zero, i.size, i.bytes)) = some (some (.int .i64 0), 1, 8) := by kernel_rfl
set_option maxRecDepth 100000 in
theorem insertNil_any (fv : Value) (w : World) : Calls Try.prog 20 #[.slice none 0 0, .int .i64 0, .int .i64 0, fv] w fun e w' => e = .returned (.tuple #[]) ∧ w' = w := by
  go_enter Try.func20, Try.ntmps20
  go_wp2_with fail
  go_loopw [8] (fun iv wr => iv = .int .i64 1 ∧ wr = w) (fun _ _ => 0)
  case atStart => exact ⟨by go_num, rfl⟩
  case round =>
    obtain ⟨rfl, rfl⟩ := hrel
    go_wp2_with fail
    go_end0
    exact ⟨rfl, rfl⟩
set_option maxRecDepth 100000 in
theorem stableNil_any (fv : Value) (w : World) : Calls Try.prog 18 #[.slice none 0 0, .int .i64 0, fv] w fun e w' => e = .returned (.tuple #[]) ∧ w' = w := by
  have HI := Lib.hid fun u => insertNil_any fv u
  go_enter Try.func18, Try.ntmps18
  go_wp2_with fail
  go_loopw [7, 8] (fun av bv wr => av = .int .i64 0 ∧ bv = .int .i64 20 ∧ wr = w) (fun _ _ _ => 0)
  case atStart => exact ⟨rfl, rfl, rfl⟩
  case round =>
    obtain ⟨rfl, rfl, rfl⟩ := hrel
    go_wp2_with fail
    refine (HI.out _).mono ?_
    rintro e w1 ⟨rfl, rfl⟩
    go_wp2_with fail
    go_loopw [6] (fun sv wr => sv = .int .i64 20 ∧ wr = w1) (fun _ _ => 0)
    case atStart => exact ⟨rfl, rfl⟩
    case round =>
      obtain ⟨rfl, rfl⟩ := hrel
      go_wp2_with fail
      go_end0
      exact ⟨rfl, rfl⟩
set_option maxRecDepth 100000 in
theorem sortNil_any (fv : Value) (w : World) : Calls Try.prog 13 #[.slice none 0 0, fv] w fun e w' => e = .returned (.tuple #[]) ∧ w' = w := by
  have HI := Lib.hid fun u => stableNil_any fv u
  go_enter Try.func13, Try.ntmps13
  go_wp2_with fail
  refine (HI.out _).mono ?_
  rintro e w1 ⟨rfl, rfl⟩
  go_wp2_with fail
  go_end0
  exact ⟨rfl, rfl⟩
theorem results_tmpW {fn : Func} {t u : Tmp} (h : fn.results = #[.tmp t, .tmp u]) (tmps : Array Value) (P : Program) (w : World) :
    (results fn tmps).run P w = .ok (.tuple #[tmps.getD t undef, tmps.getD u undef]) w := by simp [results, h]
def zI (Z : List Nat) : List Int := Z.map fun i : Nat => (i : Int)
theorem zI_length (Z : List Nat) : (zI Z).length = Z.length := by unfold zI; exact List.length_map _
theorem zI_get {Z : List Nat} {i x : Nat} (h : Z[i]? = some x) : (zI Z)[i]? = some (x : Int) := by unfold zI; rw [List.getElem?_map, h]; rfl
theorem zI_flat (Z : List Nat) : (zI Z).flatMap iC = Z.map nV := by
  rw [iC_flat]
  unfold zI
  rw [List.map_map]
  rfl
/-- what Choose hands back -/
def ChEnd (L : List Wst) (over : Nat) (w0 : World) (e : Ending) (w : World) : Prop := Below w0.heap.size w0 w ∧ ((ckW L ≠ 0 ∧ e = .returned (.tuple #[.slice none 0 0, .int .i64 (ckW L : Int)])) ∨ (ckW L = 0 ∧ ∃ (Z : List Nat) (oa : Option Addr) (oc : Nat), ChOk L over Z ∧ e = .returned (.tuple #[.slice oa (zI Z).length oc, .int .i64 0]) ∧ SAt 1 iC w oa (zI Z) ∧ (zI Z).length ≤ oc ∧ (∀ ad, oa = some ad → ad = ⟨ad.block, 0, none⟩)))
theorem own_one' {w : World} {base : Nat} {e : TypeId} {k n c : Nat} {a : Option Addr} {xs : List Value} (h : w.ownsRow base e k (.slice a n c) n xs) : (a = none ∧ n = 0 ∧ c = 0) ∨ ∃ g, a = some ⟨g, 0, none⟩ := by
  rcases h.2 with ⟨e0, _⟩ | ⟨g, c', cur, e0, _⟩
  · injection e0 with e1 e2 e3
    exact .inl ⟨e1, e2, e3⟩
  · injection e0 with e1 e2 e3
    exact .inr ⟨g, e1⟩
theorem cand_w (L : List Wst) (over : Nat) (l : List Wst) : ((List.range l.length).filter (abB L over)).Pairwise (WPr (keyW L) id) := by
  refine List.Pairwise.sublist List.filter_sublist ?_
  exact List.pairwise_lt_range.imp fun {x y} h => (fun _ => h : WPr (keyW L) id x y)
theorem range_snoc (L : List Wst) (over i : Nat) : (List.range (i + 1)).filter (abB L over) = (List.range i).filter (abB L over) ++ if abB L over i then [i] else [] := by
  rw [List.range_succ, List.filter_append]
  congr 1
  cases h : abB L over i <;> simp [h]
theorem DR.sat {w : World} {g : Nat} {L : List Nat} {sp : List Value} (h : DR w g L sp) : SAt 1 iC w (some ⟨g, 0, none⟩) (zI L) := by
  intro i hi
  rw [zI_length] at hi
  refine ⟨g, 0, rfl, (Array.getElem?_eq_some_iff.1 h).1, fun j v hj => ?_⟩
  have hz := zI_get (List.getElem?_eq_getElem hi)
  have e := (List.getElem?_eq_some_iff.1 hz).2
  rw [e] at hj
  match j, hj with
  | 0, hj =>
    obtain rfl := Option.some.inj hj
    have := h.cell (List.getElem?_eq_getElem hi)
    simpa using this
theorem gt_law {L : List Wst} {over i : Nat} {y : Wst} (hi : L[i]? = some y) (hy : WOk1 y) (h0 : 0 < y.1) : (FloatKind.f64.format.order (shF y) over == some .gt) = abB L over i := by
  show (Ieee.double.order (shF y) over == some .gt) = _
  rw [Bool.eq_iff_iff, abB_iff]
  obtain ⟨_, _, nx, px⟩ := low_word (shF_le hy)
  cases hn : isNaN over with
  | true =>
    rw [order_nan _ _ (.inr hn)]
    constructor
    · intro h; cases h
    · rintro ⟨v, h1, h2, h3, h4⟩; rw [hn] at h3; cases h3
  | false =>
    rw [order_place _ _ nx hn, px]
    constructor
    · intro h
      have hc : compare ((shF y : Nat) : Int) (place over) = .gt := by simpa using h
      exact ⟨y, hi, h0, hn, Int.compare_eq_gt.1 hc⟩
    · rintro ⟨v, h1, h2, h3, h4⟩
      rw [hi] at h1
      obtain rfl := Option.some.inj h1
      rw [Int.compare_eq_gt.2 h4]
      rfl
theorem ab_small {L : List Wst} {over i : Nat} {y : Wst} (hi : L[i]? = some y) (h0 : ¬ 0 < y.1) : abB L over i = false := by
  rw [Bool.eq_false_iff]
  intro h
  obtain ⟨v, h1, h2, _⟩ := abB_iff.1 h
  rw [hi] at h1
  obtain rfl := Option.some.inj h1
  exact h0 h2
theorem below_gx {w wr u : World} {g : Nat} (hb : Below w.heap.size w wr) (h : GX g wr u) (hg : w.heap.size ≤ g) : Below w.heap.size w u := ⟨h.os.trans hb.os, h.tape.trans hb.tape, h.output.trans hb.output, Nat.le_trans hb.size h.size, fun k hk => (h.block k (Nat.lt_of_lt_of_le hk hb.size) (by intro e; have := Option.some.inj e; omega)).trans (hb.block k hk)⟩
theorem own_dr {w : World} {base g n cap : Nat} {out : List Nat} (h : w.ownsRow base 3 1 (.slice (some ⟨g, 0, none⟩) n cap) n (out.map nV)) (hn : n = out.length) : base ≤ g ∧ ∃ sp, DR w g out sp := by
  subst hn
  rcases h.2 with ⟨e0, _⟩ | ⟨g', cap', cur, e0, hb, hg, hn, hm, hs, ht⟩
  · cases e0
  · injection e0 with e1 _ e3
    injection e1 with e1
    injection e1 with e1
    subst e1
    refine ⟨hb, cur.toList.drop out.length, ?_⟩
    rw [Nat.mul_one] at ht
    unfold DR
    rw [hg, ← ht, List.take_append_drop]
set_option maxRecDepth 100000 in
set_option maxHeartbeats 4000000 in
theorem choose_any (a : Option Addr) (cap : Nat) (L : List Wst) (over : Nat) (w : World) (h : SAt 2 wsC w a L) (hl : L.length ≤ 9223372036854775807) :
    Calls Try.prog 5 #[.slice a L.length cap, .float .f64 over] w (ChEnd L over w) := by
  obtain ⟨i0, hi0, hz0, hz1, hz2⟩ := info_parts info_intW
  have HS := Lib.hid h
  have HB0 : Hid (Below w.heap.size w (w.alloc (.cells #[.slice a L.length cap] 22))) := Lib.hid ((Below.refl _ _).alloc (Nat.le_refl _) _)
  have HBX : Hid ((w.alloc (.cells #[.slice a L.length cap] 22)).heap[w.heap.size]? = some (.cells #[.slice a L.length cap] 22 (0, 0))) := heap_alloc_new w _
  have HCK := Lib.hid (check_any a cap L (w.alloc (.cells #[.slice a L.length cap] 22)) (h.below HB0.out) hl)
  clear h
  by_cases hck : ckW L = 0
  · have HOK := Lib.hid (ckW_zero hck)
    have HCZ := Lib.hid hck
    clear hck
    go_enter Try.func5, Try.ntmps5
    go_wp2_with fail
    refine HCK.out.mono ?_
    rintro e w1 ⟨he, hb1⟩
    rw [HCZ.out] at he
    replace he : e = .returned (.int .i64 0) := he
    subst he
    have HB1 : Hid (Below (w.heap.size + 1) (w.alloc (.cells #[.slice a L.length cap] 22)) w1) := Lib.hid (hb1.mono (by simp))
    clear hb1
    have cb1 : w1.cell? ⟨w.heap.size, 0, none⟩ = some (.slice a L.length cap) := by
      rw [cell_of_row _ _ 0 _ _ _ ((HB1.out.block w.heap.size (by omega)).trans HBX.out)]
      rfl
    go_wp2_with fail
    clear cb1
    go_loopw [7, 17] (fun ov iv wr => ∃ (i : Nat) (out : List Nat) (oa : Option Addr) (oc : Nat), ov = .slice oa out.length oc ∧ iv = .int .i64 (i : Int) ∧ i ≤ L.length ∧ Hid (out = (List.range i).filter (abB L over)) ∧ Hid (wr.ownsRow (w.heap.size + 1) 3 1 (.slice oa out.length oc) out.length (out.map nV)) ∧ Hid (Below (w.heap.size + 1) (w.alloc (.cells #[.slice a L.length cap] 22)) wr)) (fun _ iv _ => L.length - (intOf iv).toNat)
    case atStart => exact ⟨0, [], none, 0, rfl, rfl, Nat.zero_le _, Lib.hid rfl, Lib.hid (World.ownsRow_nil _ _ _ _), HB1⟩
    case round =>
      obtain ⟨i, out, oa, oc, rfl, rfl, hi, HOUT, HOWN, HBR⟩ := hrel
      have HBW : Hid (Below w.heap.size w wr) := Lib.hid (Below.trans HB0.out (HBR.out.mono (by omega)))
      have HOL : Hid (out.length ≤ i) := Lib.hid (by rw [HOUT.out]; exact Nat.le_trans (List.length_filter_le _ _) (by rw [List.length_range]; exact Nat.le_refl _))
      have h100 := HOK.out.1
      by_cases hlt : i < L.length
      · have m2 : (i : Int) < (L.length : Int) := by omega
        obtain ⟨y, hy⟩ : ∃ y, L[i]? = some y := ⟨_, List.getElem?_eq_getElem hlt⟩
        obtain ⟨g, off, ha, hg, c0, c1⟩ := (HS.out.below HBW.out).ws hy
        subst ha
        have HWO := Lib.hid (HOK.out.2 y (List.mem_of_getElem? hy))
        have HY := Lib.hid hy
        clear hy hg
        have HBA : Hid (Below wr.heap.size wr (wr.alloc (Obj.cells #[Value.int IntKind.i64 y.1, Value.int IntKind.i64 y.2] 29))) := Lib.hid ((Below.refl _ _).alloc (Nat.le_refl _) _)
        by_cases h0 : 0 < y.1
        · have HSH := Lib.hid (share_any y HWO.out (wr.alloc (Obj.cells #[Value.int IntKind.i64 y.1, Value.int IntKind.i64 y.2] 29)))
          have hgt := gt_law (over := over) HY.out HWO.out h0
          cases hab : abB L over i with
          | false =>
            rw [hab] at hgt
            have HO2 : Hid (out = (List.range (i + 1)).filter (abB L over)) := Lib.hid (by rw [range_snoc, hab, ← HOUT.out]; simp)
            clear hab h100
            go_wp2_with fail
            refine HSH.out.mono ?_
            rintro e w3 ⟨rfl, hb3⟩
            have HB3 := Lib.hid (Below.step HBA.out hb3)
            clear hb3
            go_wp2_with fail
            go_roundw
            case rel => exact ⟨i + 1, out, oa, oc, rfl, by go_num, hlt, HO2, Lib.hid (own_belowK HOWN.out HB3.out), Lib.hid (Below.trans HBR.out (HB3.out.mono (by have := HBR.out.size; simp at this; omega)))⟩
            case measure => simp [intOf]; omega
          | true =>
            rw [hab] at hgt
            have HO2 : Hid (out ++ [i] = (List.range (i + 1)).filter (abB L over)) := Lib.hid (by rw [range_snoc, hab, ← HOUT.out]; simp)
            have HHL : Hid (out.length ≤ 100) := Lib.hid (by have := HOL.out; omega)
            clear hab h100
            go_wp2_with fail
            refine HSH.out.mono ?_
            rintro e w3 ⟨rfl, hb3⟩
            have HB3 := Lib.hid (Below.step HBA.out hb3)
            clear hb3
            have HO3 := Lib.hid (own_belowK HOWN.out HB3.out)
            have HBR3 : Hid (Below (w.heap.size + 1) (w.alloc (.cells #[.slice (some ⟨g, off, none⟩) L.length cap] 22)) w3) := Lib.hid (Below.trans HBR.out (HB3.out.mono (by have := HBR.out.size; simp at this; omega)))
            have D1 := Lib.hid (cells_new_at w3 w3.heap.size rfl #[.int .i64 (i : Int)] 3 [.int .i64 (i : Int)] rfl)
            have D2 : Hid (∀ u ∈ ([.int .i64 (i : Int)] : List Value), u.oneCell' = true) := by intro u hu; simp only [List.mem_cons, List.not_mem_nil, or_false] at hu; rcases hu with rfl <;> rfl
            have D3 : Hid (out.length + 1 ≤ maxLen) := by have := HHL.out; show _ ≤ _; unfold maxLen; omega
            have D4 : Hid ((out.length + 1) * 8 ≤ 140737488355328) := by have := HHL.out; show _ ≤ _; omega
            have D5 : Hid (w.heap.size + 1 ≤ (w3.alloc (.cells #[.int .i64 (i : Int)] 3)).heap.size) := by have := HBR3.out.size; show _ ≤ _; simp at this ⊢; omega
            have HA1 := Lib.hid (HO3.out.alloc (.cells #[.int .i64 (i : Int)] 3))
            go_wp2_with (at_builtin; refine wpList_append_own _ rfl _ _ 24 rfl (w.heap.size + 1) 3 i0 (.int .i64 0) 1 8 Try.underlying24 hi0 hz0 hz1 hz2 rfl (by decide) _ _ _ rfl HA1.out ⟨w3.heap.size, 0, none⟩ 1 1 [.int .i64 (i : Int)] rfl rfl D1.out D2.out D3.out D4.out D5.out ?_)
            intro v' w4 hown' hgrow _
            obtain ⟨oa3, oc3, rfl⟩ := own_formK hown'
            have BW := Lib.hid (below_own ((HBR3.out).alloc (by have := HBR3.out.size; simp at this; omega) (.cells #[.int .i64 (i : Int)] 3)) hgrow D5.out HA1.out (Nat.le_refl _))
            have HW4 : Hid (w4.ownsRow (w.heap.size + 1) 3 1 (.slice oa3 (out ++ [i]).length oc3) (out ++ [i]).length ((out ++ [i]).map nV)) := by
              show w4.ownsRow _ _ _ _ _ _
              rw [List.length_append, List.map_append]
              exact hown'
            clear hown' hgrow
            go_wp2_with fail
            go_roundw
            case rel => exact ⟨i + 1, out ++ [i], oa3, oc3, by rw [List.length_append]; rfl, by go_num, hlt, HO2, HW4, BW⟩
            case measure => simp [intOf]; omega
        · have HO2 : Hid (out = (List.range (i + 1)).filter (abB L over)) := Lib.hid (by rw [range_snoc, ab_small HY.out h0, ← HOUT.out]; simp)
          clear h100
          go_wp2_with fail
          go_roundw
          case rel => exact ⟨i + 1, out, oa, oc, rfl, by go_num, hlt, HO2, Lib.hid (own_belowK HOWN.out HBA.out), Lib.hid (Below.trans HBR.out (HBA.out.mono (by have := HBR.out.size; simp at this; omega)))⟩
          case measure => simp [intOf]; omega
      · have m2 : ¬ (i : Int) < (L.length : Int) := by omega
        have hiL : i = L.length := by omega
        subst hiL
        rcases own_one' HOWN.out with ⟨rfl, hl0, rfl⟩ | ⟨g, rfl⟩
        · obtain rfl : out = [] := List.eq_nil_of_length_eq_zero hl0
          have HCH : Hid (ChOk L over []) := Lib.hid ⟨by unfold cand; rw [← HOUT.out], List.Pairwise.nil, List.Pairwise.nil⟩
          have HSN := Lib.hid fun fv => sortNil_any fv wr
          clear h100
          go_wp2_with fail
          refine (HSN.out _).mono ?_
          rintro e w5 ⟨rfl, rfl⟩
          go_wp2_with fail
          refine bodyPost_ret (results_tmpW rfl _ _ _) rfl ?_
          exact ⟨HBW.out, .inr ⟨HCZ.out, [], none, 0, HCH.out, rfl, fun i hi => absurd hi (Nat.not_lt_zero _), Nat.le_refl _, fun ad h => by cases h⟩⟩
        · obtain ⟨hbg, sp, hdr⟩ := own_dr HOWN.out rfl
          have HBG := Lib.hid hbg
          have HCAP : Hid (out.length ≤ oc) := Lib.hid (by
            rcases HOWN.out.2 with ⟨e0, _⟩ | ⟨g', cap', cur, e0, _, _, hn, _⟩
            · cases e0
            · injection e0 with e1 _ e3
              subst e3
              exact hn)
          have HST := Lib.hid (sortStable_any (keyW L) (fun x => x < L.length) g out.length oc w.heap.size out sp wr (fun x y u hx hy hu => cmpW_any a cap w.heap.size L x y u (HS.out.below (below_gx HBW.out hu (by omega))) HOK.out (by
            have := (hu.block w.heap.size (by have := HBR.out.size; simp at this; omega) (by intro e; have := Option.some.inj e; omega)).trans ((HBR.out.block w.heap.size (by omega)).trans HBX.out)
            exact this) hx hy) (fun z hz => by
              rw [HOUT.out, List.mem_filter, List.mem_range] at hz
              exact hz.1) hdr rfl (by have := HOL.out; omega) (by rw [HOUT.out]; exact cand_w L over L))
          clear hbg hdr h100
          go_wp2_with fail
          refine HST.out.mono ?_
          rintro e w5 ⟨rfl, Z, hz1, hz2, hz3, hz4, hz5⟩
          have HCH : Hid (ChOk L over Z) := Lib.hid ⟨by unfold cand; rw [← HOUT.out]; exact hz1, hz2, hz3⟩
          have HZL := Lib.hid hz1.length_eq
          have HZS := Lib.hid hz4.sat
          have HZB := Lib.hid (below_gx HBW.out hz5 (by have := HBG.out; omega))
          clear hz1 hz2 hz3 hz4 hz5
          go_wp2_with fail
          refine bodyPost_ret (results_tmpW rfl _ _ _) rfl ?_
          exact ⟨HZB.out, .inr ⟨HCZ.out, Z, _, oc, HCH.out, by rw [zI_length, HZL.out]; rfl, HZS.out, by rw [zI_length, HZL.out]; exact HCAP.out, fun ad h => by obtain rfl := Option.some.inj h; rfl⟩⟩
  · go_enter Try.func5, Try.ntmps5
    go_wp2_with fail
    refine HCK.out.mono ?_
    rintro e w1 ⟨rfl, hb1⟩
    go_wp2_with fail
    refine bodyPost_ret (results_tmpW rfl _ _ _) rfl ?_
    exact ⟨Below.step HB0.out hb1, .inl ⟨hck, rfl⟩⟩
end Go.Proofs.Ytpfmfigommmjiaa
