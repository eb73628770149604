/- Lists of packs' waste; waste.Check, waste.Share, cmp.Compare of floating-point numbers. -/
import Derived.Test.YtpfmfigommmjiaaWasteP2
import Derived.Test.YtpfmfigommmjiaaFloatW
import Derived.Test.YtpfmfigommmjiaaInts
import Derived.Test.YtpfmfigommmjiaaMem
import Derived.Test.YtpfmfigommmjiaaResults
import Derived.Test.YtpfmfigommmjiaaStableMain
import Derived.Laws.FloatArith
namespace Go.Proofs.Ytpfmfigommmjiaa
open Go.RowKit Plain
set_option linter.unusedVariables false
set_option linter.unusedSimpArgs false
def wsC (w : Wst) : List Value := [.int .i64 w.1, .int .i64 w.2]
def wsV (w : Wst) : Value := .agg #[.int .i64 w.1, .int .i64 w.2]
theorem wsC_length (w : Wst) : (wsC w).length = 2 := rfl
theorem cells_ws : Try.prog.cellsOf 29 = 2 := by kernel_rfl
theorem read_ws {H : Type} {enc : TypeId × Value → H} {W : World} {base : Nat} {sp : Nat → Bool} {held : Bool} (fuel : Nat) (cs : List Value) (x : DataW H × List MemPlace) (h : DataW.trod enc Try.prog W base sp held fuel 29 cs = some x) : ∃ y : Wst, cs = wsC y ∧ I64 y.1 ∧ I64 y.2 := by
  obtain ⟨hl, hf⟩ := trod_fields Try.underlying29 (by kernel_rfl) cells_ws h
  obtain ⟨u0, m0, y0, e0, t0⟩ := hf 0 _ rfl
  obtain ⟨u1, m1, y1, e1, t1⟩ := hf 1 _ rfl
  obtain ⟨a1, g1, b1⟩ := read_int _ _ _ t0
  obtain ⟨a2, g2, b2⟩ := read_int _ _ _ t1
  simp only [iC, List.cons.injEq, and_true] at g1 g2
  subst g1 g2
  match cs, hl, e0, e1 with
  | [c0, c1], _, e0, e1 =>
    simp at e0 e1
    subst e0 e1
    exact ⟨(a1, a2), rfl, b1, b2⟩
set_option maxRecDepth 100000 in
theorem open_wastes {H : Type} {enc : TypeId × Value → H} {W : World} {r : Reach} {base b0 : Nat} {sp : Nat → Bool} {held : Bool} {v : Value} {d : DataW H} {p : List MemPlace} (ho : Value.okWide Try.prog W r b0 22 v) (hd : DataW.Trod enc Try.prog W base sp held 22 v d p) :
    ∃ (a : Option Addr) (l : List Wst) (cap : Nat), v = .slice a l.length cap ∧ l.length ≤ 9223372036854775807 ∧ (∀ y ∈ l, I64 y.1 ∧ I64 y.2) ∧ SAt 2 wsC W a l := by
  obtain ⟨a, l, cap, rfl, h1, h2, h3, h4, _⟩ := SAt.open_ (n := 2) (c := wsC) (fun y : Wst => I64 y.1 ∧ I64 y.2) Try.underlying22 cells_ws (by decide) wsC_length read_ws ho hd
  exact ⟨a, l, cap, rfl, by omega, h3, h4⟩
theorem SAt.ws {w : World} {a : Option Addr} {l : List Wst} (h : SAt 2 wsC w a l) {i : Nat} {y : Wst} (hi : l[i]? = some y) :
    ∃ g off, a = some ⟨g, off, none⟩ ∧ g < w.heap.size ∧ w.cell? ⟨g, off + i * 2, none⟩ = some (.int .i64 y.1) ∧ w.cell? ⟨g, off + i * 2 + 1, none⟩ = some (.int .i64 y.2) := by
  obtain ⟨hl, rfl⟩ := List.getElem?_eq_some_iff.1 hi
  obtain ⟨g, off, e, hg, hc⟩ := h i hl
  exact ⟨g, off, e, hg, hc 0 _ rfl, hc 1 _ rfl⟩
/-- what Check answers -/
noncomputable def ckW (l : List Wst) : Nat := @ite _ (100 < l.length) (Classical.propDecidable _) 2 (@ite _ (∀ w ∈ l, WOk1 w) (Classical.propDecidable _) 0 1)
theorem ckW_ok {l : List Wst} (h : WsOk l) : ckW l = 0 := by
  unfold ckW
  rw [if_neg (by have := h.1; omega), if_pos h.2]
theorem ckW_large {l : List Wst} (h : 100 < l.length) : ckW l = 2 := by
  unfold ckW
  rw [if_pos h]
theorem ckW_bad {l : List Wst} (h : ¬ 100 < l.length) {w : Wst} (hw : w ∈ l) (hb : ¬ WOk1 w) : ckW l = 1 := by
  unfold ckW
  rw [if_neg h, if_neg (fun hh => hb (hh w hw))]
theorem ckW_zero {l : List Wst} (h : ckW l = 0) : WsOk l := by
  rcases Nat.lt_or_ge 100 l.length with h1 | h1
  · rw [ckW_large h1] at h; cases h
  · by_cases h2 : ∀ w ∈ l, WOk1 w
    · exact ⟨h1, h2⟩
    · unfold ckW at h
      rw [if_neg (by omega), if_neg h2] at h
      cases h
theorem ckW_lt (l : List Wst) : ckW l ≤ 2 := by
  rcases Nat.lt_or_ge 100 l.length with h1 | h1
  · rw [ckW_large h1]; omega
  · by_cases h2 : ∀ w ∈ l, WOk1 w
    · rw [ckW_ok ⟨h1, h2⟩]; omega
    · unfold ckW
      rw [if_neg (by omega), if_neg h2]; omega
set_option maxRecDepth 100000 in
set_option maxHeartbeats 4000000 in
theorem check_any (a : Option Addr) (cap : Nat) (L : List Wst) (w : World) (h : SAt 2 wsC w a L) (hl : L.length ≤ 9223372036854775807) :
    Calls Try.prog 12 #[.slice a L.length cap] w fun e w' => e = .returned (.int .i64 (ckW L : Int)) ∧ Below w.heap.size w w' := by
  have HS := Lib.hid h
  clear h
  by_cases h1 : 100 < L.length
  · have m1 : (100 : Int) < (L.length : Int) := by omega
    have e1 := ckW_large h1
    rw [e1]
    go_enter Try.func12, Try.ntmps12
    go_wp2_with fail
    go_ret
    exact ⟨rfl, Below.refl _ _⟩
  · have m1 : ¬ (100 : Int) < (L.length : Int) := by omega
    go_enter Try.func12, Try.ntmps12
    go_wp2_with fail
    go_loopw [10] (fun iv wr => ∃ i : Nat, i ≤ L.length ∧ iv = .int .i64 (i : Int) ∧ Hid (∀ j y, j < i → L[j]? = some y → WOk1 y) ∧ Hid (Below w.heap.size w wr)) (fun iv _ => L.length - (intOf iv).toNat)
    case atStart => exact ⟨0, Nat.zero_le _, rfl, Lib.hid (fun j y hj => absurd hj (Nat.not_lt_zero _)), Lib.hid (Below.refl _ _)⟩
    case round =>
      obtain ⟨i, hi, rfl, HOK, HB⟩ := hrel
      by_cases hlt : i < L.length
      · have m2 : (i : Int) < (L.length : Int) := by omega
        obtain ⟨y, hy⟩ : ∃ y, L[i]? = some y := ⟨_, List.getElem?_eq_getElem hlt⟩
        obtain ⟨g, off, ha, hg, c0, c1⟩ := (HS.out.below HB.out).ws hy
        subst ha
        have HY := Lib.hid hy
        obtain ⟨s, d⟩ := y
        clear hy
        have bad (hb : ¬ (0 ≤ s ∧ s ≤ 1099511627776 ∧ 0 ≤ d ∧ d ≤ s)) : Hid (ckW L = 1) := Lib.hid (ckW_bad h1 (List.mem_of_getElem? HY.out) hb)
        have HB2 : Hid (Below w.heap.size w (wr.alloc (Obj.cells #[Value.int IntKind.i64 s, Value.int IntKind.i64 d] 29))) := Lib.hid (HB.out.alloc HB.out.size _)
        by_cases b1 : s < 0
        · have HE := bad (by omega)
          clear bad
          go_wp2_with fail
          go_ret
          exact ⟨by rw [HE.out]; rfl, HB2.out⟩
        by_cases b2 : 1099511627776 < s
        · have HE := bad (by omega)
          clear bad
          go_wp2_with fail
          go_ret
          exact ⟨by rw [HE.out]; rfl, HB2.out⟩
        by_cases b3 : d < 0
        · have HE := bad (by omega)
          clear bad
          go_wp2_with fail
          go_ret
          exact ⟨by rw [HE.out]; rfl, HB2.out⟩
        by_cases b4 : s < d
        · have HE := bad (by omega)
          clear bad
          go_wp2_with fail
          go_ret
          exact ⟨by rw [HE.out]; rfl, HB2.out⟩
        have HOK2 : Hid (∀ j y, j < i + 1 → L[j]? = some y → WOk1 y) := Lib.hid fun j y hj hjy => by
          rcases Nat.lt_or_ge j i with h | h
          · exact HOK.out j y h hjy
          · obtain rfl : j = i := by omega
            rw [HY.out] at hjy
            obtain rfl := Option.some.inj hjy
            exact ⟨by simp only; omega, by simp only; omega, by simp only; omega, by simp only; omega⟩
        clear bad
        go_wp2_with fail
        go_roundw
        case rel => exact ⟨i + 1, hlt, by go_num, HOK2, HB2⟩
        case measure => simp [intOf]; omega
      · have m2 : ¬ (i : Int) < (L.length : Int) := by omega
        have HE := Lib.hid (ckW_ok (l := L) ⟨by omega, fun y hy => by obtain ⟨j, hj⟩ := List.getElem?_of_mem hy; exact HOK.out j y (by have := (List.getElem?_eq_some_iff.1 hj).1; omega) hj⟩)
        go_wp2_with fail
        go_ret
        exact ⟨by rw [HE.out]; rfl, HB.out⟩
set_option maxRecDepth 100000 in
theorem isNaNc_any (x : Nat) (w : World) : Calls Try.prog 19 #[.float .f64 x] w fun e w' => e = .returned (.bool (isNaN x)) ∧ w' = w := by
  have hs := order_self x
  go_enter Try.func19, Try.ntmps19
  go_wp2_with fail
  go_ret
  exact ⟨rfl, rfl⟩
set_option maxRecDepth 100000 in
set_option maxHeartbeats 4000000 in
theorem compare_any (x y : Nat) (hx : x ≤ 4607182418800017408) (hy : y ≤ 4607182418800017408) (w : World) : Calls Try.prog 15 #[.float .f64 x, .float .f64 y] w fun e w' => ∃ r : Int, e = .returned (.int .i64 r) ∧ (r < 0 ↔ x < y) ∧ w' = w := by
  obtain ⟨_, _, nx, px⟩ := low_word hx
  obtain ⟨_, _, ny, py⟩ := low_word hy
  have HNX := Lib.hid fun u => isNaNc_any x u
  have HNY := Lib.hid fun u => isNaNc_any y u
  rw [nx] at HNX
  rw [ny] at HNY
  have o1 : FloatKind.f64.format.order x y = some (compare (x : Int) (y : Int)) := by rw [← px, ← py]; exact order_place x y nx ny
  clear nx px ny py hx hy
  rcases Nat.lt_trichotomy x y with h | h | h
  · rw [Int.compare_eq_lt.2 (by omega)] at o1
    have HH := Lib.hid h
    clear h
    go_enter Try.func15, Try.ntmps15
    go_wp2_with fail
    refine (HNX.out _).mono ?_
    rintro e w1 ⟨rfl, rfl⟩
    go_wp2_with fail
    refine (HNY.out _).mono ?_
    rintro e w1 ⟨rfl, rfl⟩
    go_wp2_with fail
    go_ret
    exact ⟨_, rfl, ⟨fun _ => HH.out, fun _ => by decide⟩, rfl⟩
  · rw [Int.compare_eq_eq.2 (by omega)] at o1
    have HH := Lib.hid h
    clear h
    go_enter Try.func15, Try.ntmps15
    go_wp2_with fail
    refine (HNX.out _).mono ?_
    rintro e w1 ⟨rfl, rfl⟩
    go_wp2_with fail
    refine (HNY.out _).mono ?_
    rintro e w1 ⟨rfl, rfl⟩
    go_wp2_with fail
    go_ret
    exact ⟨_, rfl, ⟨fun h => absurd h (by decide), fun h => absurd HH.out (by omega)⟩, rfl⟩
  · rw [Int.compare_eq_gt.2 (by omega)] at o1
    have HH := Lib.hid h
    clear h
    go_enter Try.func15, Try.ntmps15
    go_wp2_with fail
    refine (HNX.out _).mono ?_
    rintro e w1 ⟨rfl, rfl⟩
    go_wp2_with fail
    refine (HNY.out _).mono ?_
    rintro e w1 ⟨rfl, rfl⟩
    go_wp2_with fail
    go_ret
    exact ⟨_, rfl, ⟨fun h => absurd h (by decide), fun h => absurd HH.out (by omega)⟩, rfl⟩
theorem floatOfInt_nat {d : Int} (h : 0 ≤ d) : floatOfInt .f64 d = fW d.toNat := by
  obtain ⟨n, rfl⟩ := Int.eq_ofNat_of_zero_le h
  show Ieee.double.write (.number (decide ((n : Int) < 0)) (n : Int).natAbs 0) = Ieee.double.write (.number false (n : Int).toNat 0)
  rw [decide_eq_false (by omega), Int.natAbs_natCast, Int.toNat_natCast]
set_option maxRecDepth 100000 in
theorem share_any (y : Wst) (hy : WOk1 y) (w : World) : Calls Try.prog 7 #[wsV y] w fun e w' => e = .returned (.float .f64 (shF y)) ∧ Below w.heap.size w w' := by
  have HB : Hid (Below w.heap.size w (w.alloc (Obj.cells #[.int .i64 y.1, .int .i64 y.2] 29))) := (Below.refl _ _).alloc (Nat.le_refl _) _
  obtain ⟨s, d⟩ := y
  unfold wsV
  by_cases h0 : s = 0
  · subst h0
    have HE : Hid (shF (0, d) = 0) := Lib.hid (by unfold shF; rw [if_pos rfl])
    clear hy
    go_enter Try.func7, Try.ntmps7
    go_wp2_with fail
    go_ret
    exact ⟨by rw [HE.out]; rfl, HB.out⟩
  · have hd := (shF_div hy h0).1
    obtain ⟨h1, h2, h3, h4⟩ := hy
    simp only at h1 h2 h3 h4 hd
    have hq : ∀ u : World, (binOp .quo 23 (.float .f64 (floatOfInt .f64 d)) (.float .f64 (floatOfInt .f64 s))).run Try.prog u = .ok (.float .f64 (shF (s, d))) u := fun u => by
      rw [floatOfInt_nat h3, floatOfInt_nat h1]
      exact run_float_arith u .quo _ .f64 _ _ _ hd
    clear hd
    go_enter Try.func7, Try.ntmps7
    go_wp2_with fail
    go_ret
    exact ⟨rfl, HB.out⟩
set_option maxRecDepth 100000 in
theorem cmpW_any (a : Option Addr) (cap B : Nat) (L : List Wst) (x y : Nat) (w : World) (h : SAt 2 wsC w a L) (hok : WsOk L) (hB : w.heap[B]? = some (.cells #[.slice a L.length cap] 22 (0, 0))) (hx : x < L.length) (hy : y < L.length) :
    Calls Try.prog 14 #[.int .i64 (x : Int), .int .i64 (y : Int), .pointer (some ⟨B, 0, none⟩)] w fun e w' => (∃ r : Int, e = .returned (.int .i64 r) ∧ (r < 0 ↔ keyW L x < keyW L y)) ∧ Below w.heap.size w w' := by
  obtain ⟨vx, ex⟩ : ∃ vx, L[x]? = some vx := ⟨_, List.getElem?_eq_getElem hx⟩
  obtain ⟨vy, ey⟩ : ∃ vy, L[y]? = some vy := ⟨_, List.getElem?_eq_getElem hy⟩
  have kx : keyW L x = -(shF vx : Int) := by unfold keyW; rw [ex]
  have ky : keyW L y = -(shF vy : Int) := by unfold keyW; rw [ey]
  have ox := hok.2 vx (List.mem_of_getElem? ex)
  have oy := hok.2 vy (List.mem_of_getElem? ey)
  have HSX := Lib.hid (fun u => share_any vx ox u)
  have HSY := Lib.hid (fun u => share_any vy oy u)
  have HCM := Lib.hid (fun u => compare_any (shF vy) (shF vx) (shF_le oy) (shF_le ox) u)
  obtain ⟨g, off, rfl, hg, _, _⟩ := h.ws ex
  have HCF : Hid (∀ u : World, Below w.heap.size w u → u.cell? ⟨B, 0, none⟩ = some (.slice (some ⟨g, off, none⟩) L.length cap) ∧ u.cell? ⟨g, off + x * 2, none⟩ = some (.int .i64 vx.1) ∧ u.cell? ⟨g, off + x * 2 + 1, none⟩ = some (.int .i64 vx.2) ∧ u.cell? ⟨g, off + y * 2, none⟩ = some (.int .i64 vy.1) ∧ u.cell? ⟨g, off + y * 2 + 1, none⟩ = some (.int .i64 vy.2)) := Lib.hid fun u hb => by
    have h2 := h.below hb
    obtain ⟨g1, o1, e1, _, c0, c1⟩ := h2.ws ex
    obtain ⟨g2, o2, e2, _, d0, d1⟩ := h2.ws ey
    simp only [Option.some.injEq, Addr.mk.injEq, and_true] at e1 e2
    obtain ⟨rfl, rfl⟩ := e1
    obtain ⟨rfl, rfl⟩ := e2
    have hB2 := (hb.block B (lt_of_block hB)).trans hB
    exact ⟨by rw [cell_of_row u B 0 _ _ _ hB2]; rfl, c0, c1, d0, d1⟩
  have m1 : (x : Int) < (L.length : Int) := by omega
  have m2 : (y : Int) < (L.length : Int) := by omega
  have m3 : (0 : Int) ≤ (x : Int) := by omega
  have m4 : (0 : Int) ≤ (y : Int) := by omega
  rw [kx, ky]
  clear h hok hB hx hy ex ey kx ky ox oy
  go_enter Try.func14, Try.ntmps14
  go_wp2_with fail
  refine wp_region_noPanic ?_
  refine wp_region_held_drew (S := fun u => Below w.heap.size w u) (by kernel_rfl) ⟨rfl, rfl, rfl, Nat.le_refl _, fun _ _ => rfl⟩ (fun hS0 => ?_)
  have HS0 := Lib.hid hS0
  clear hS0
  refine take_val 0 (.slice (some ⟨g, off, none⟩) L.length cap) rfl (by kernel_rfl) (by kernel_rfl) (by kernel_rfl) (fun _ _ _ _ h => h) (by rfl) rfl (fun wz hS => by have hzc := HCF.out _ hS; obtain ⟨z0, z1, z2, z3, z4⟩ := hzc; first | (go_simp; done) | (go_simp; rfl)) HS0.out ?_
  try simp only [List.set_cons_zero, List.set_cons_succ]
  refine take_val 1 (.int .i64 (y : Int)) rfl (by kernel_rfl) (by kernel_rfl) (by kernel_rfl) (fun _ _ _ _ h => h) (by rfl) rfl (fun wz hS => by go_simp) HS0.out ?_
  try simp only [List.set_cons_zero, List.set_cons_succ]
  refine take_val 2 (.pointer (some ⟨g, off + y * 2, none⟩)) rfl (by kernel_rfl) (by kernel_rfl) (by kernel_rfl) (fun _ _ _ _ h => h) (by rfl) rfl (fun wz hS => by have hzc := HCF.out _ hS; obtain ⟨z0, z1, z2, z3, z4⟩ := hzc; first | (go_simp; done) | (go_simp; rfl)) HS0.out ?_
  try simp only [List.set_cons_zero, List.set_cons_succ]
  refine take_val 3 (wsV vy) rfl (by kernel_rfl) (by kernel_rfl) (by kernel_rfl) (fun _ _ _ _ h => h) (by rfl) rfl (fun wz hS => by have hzc := HCF.out _ hS; obtain ⟨z0, z1, z2, z3, z4⟩ := hzc; first | (go_simp; done) | (go_simp; rfl)) HS0.out ?_
  try simp only [List.set_cons_zero, List.set_cons_succ]
  refine take_val 5 (.slice (some ⟨g, off, none⟩) L.length cap) rfl (by kernel_rfl) (by kernel_rfl) (by kernel_rfl) (fun _ _ _ _ h => h) (by rfl) rfl (fun wz hS => by have hzc := HCF.out _ hS; obtain ⟨z0, z1, z2, z3, z4⟩ := hzc; first | (go_simp; done) | (go_simp; rfl)) HS0.out ?_
  try simp only [List.set_cons_zero, List.set_cons_succ]
  refine take_val 6 (.int .i64 (x : Int)) rfl (by kernel_rfl) (by kernel_rfl) (by kernel_rfl) (fun _ _ _ _ h => h) (by rfl) rfl (fun wz hS => by go_simp) HS0.out ?_
  try simp only [List.set_cons_zero, List.set_cons_succ]
  refine take_val 7 (.pointer (some ⟨g, off + x * 2, none⟩)) rfl (by kernel_rfl) (by kernel_rfl) (by kernel_rfl) (fun _ _ _ _ h => h) (by rfl) rfl (fun wz hS => by have hzc := HCF.out _ hS; obtain ⟨z0, z1, z2, z3, z4⟩ := hzc; first | (go_simp; done) | (go_simp; rfl)) HS0.out ?_
  try simp only [List.set_cons_zero, List.set_cons_succ]
  refine take_val 8 (wsV vx) rfl (by kernel_rfl) (by kernel_rfl) (by kernel_rfl) (fun _ _ _ _ h => h) (by rfl) rfl (fun wz hS => by have hzc := HCF.out _ hS; obtain ⟨z0, z1, z2, z3, z4⟩ := hzc; first | (go_simp; done) | (go_simp; rfl)) HS0.out ?_
  try simp only [List.set_cons_zero, List.set_cons_succ]
  generalize w.drew = v0 at *
  refine one_ready 4 (by kernel_rfl) rfl (by rfl) (fun KQ hK => ?_)
  refine wp_call_run (f := 7) (args := #[wsV vy]) (by kernel_rfl) (HSY.out v0) ?_
  rintro e u1 ⟨rfl, hbu⟩
  refine ⟨_, rfl, ?_⟩
  show KQ (Act.put _ (some 10) _) _
  have HS1 := Lib.hid (Below.step HS0.out hbu)
  clear hbu
  refine hK.out _ _ HS1.out ?_
  clear hK KQ
  try simp only [Act.put, List.setIfInBounds_toArray]
  try simp only [List.set_cons_zero, List.set_cons_succ]
  clear HS0
  generalize u1 = v1 at *
  refine one_ready 9 (by kernel_rfl) rfl (by rfl) (fun KQ hK => ?_)
  refine wp_call_run (f := 7) (args := #[wsV vx]) (by kernel_rfl) (HSX.out v1) ?_
  rintro e u2 ⟨rfl, hbu⟩
  refine ⟨_, rfl, ?_⟩
  show KQ (Act.put _ (some 15) _) _
  have HS2 := Lib.hid (Below.step HS1.out hbu)
  clear hbu
  refine hK.out _ _ HS2.out ?_
  clear hK KQ
  try simp only [Act.put, List.setIfInBounds_toArray]
  try simp only [List.set_cons_zero, List.set_cons_succ]
  clear HS1
  generalize u2 = v2 at *
  refine one_ready 10 (by kernel_rfl) rfl (by rfl) (fun KQ hK => ?_)
  refine wp_call_run (f := 15) (args := #[.float .f64 (shF vy), .float .f64 (shF vx)]) (by kernel_rfl) (HCM.out v2) ?_
  rintro e u3 ⟨r, rfl, hr, rfl⟩
  refine ⟨_, rfl, ?_⟩
  show KQ (Act.put _ (some 16) _) _
  have HR := Lib.hid hr
  clear hr
  refine hK.out _ _ HS2.out ?_
  clear hK KQ
  try simp only [Act.put, List.setIfInBounds_toArray]
  try simp only [List.set_cons_zero, List.set_cons_succ]
  refine take_val 11 (.int .i64 r) rfl (by kernel_rfl) (by kernel_rfl) (by kernel_rfl) (fun _ _ _ _ h => h) (by rfl) rfl (fun wz hS => by go_simp) HS2.out ?_
  try simp only [List.set_cons_zero, List.set_cons_succ]
  refine wpAnyH_done (by kernel_rfl) ?_ _
  refine NoPanic.normal ?_
  go_wp2_with fail
  go_ret
  exact ⟨⟨r, rfl, by have := HR.out; omega⟩, HS2.out⟩
end Go.Proofs.Ytpfmfigommmjiaa
