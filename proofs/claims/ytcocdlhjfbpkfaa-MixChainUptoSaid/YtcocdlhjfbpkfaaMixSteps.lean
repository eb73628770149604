/- The walk of lumkeep.steps: the steps of a text. -/
import Derived.Test.YtcocdlhjfbpkfaaMixCut
import Derived.Test.YtcocdlhjfbpkfaaDrawn
import Derived.Test.YtcocdlhjfbpkfaaAppend
namespace Go.Proofs.Ytcocdlhjfbpkfaa
open Go.RowKit Plain
namespace Plain
/-- the first j of some bytes, the least first -/
def leS (g : Nat → Nat) : Nat → Nat
  | 0 => 0
  | j + 1 => leS g j + g j * 2 ^ (8 * j)
theorem leS_lt (g : Nat → Nat) (hg : ∀ i, g i < 256) : ∀ j, leS g j < 2 ^ (8 * j)
  | 0 => by simp [leS]
  | j + 1 => by
    have ih := leS_lt g hg j
    have h := hg j
    have e : 2 ^ (8 * (j + 1)) = 256 * 2 ^ (8 * j) := by rw [show 8 * (j + 1) = 8 + 8 * j by omega, Nat.pow_add]
    have h2 : g j * 2 ^ (8 * j) ≤ 255 * 2 ^ (8 * j) := Nat.mul_le_mul_right _ (by omega)
    rw [e, leS]
    omega
theorem leS_or (g : Nat → Nat) (hg : ∀ i, g i < 256) (j : Nat) : leS g j ||| g j <<< (8 * j) = leS g (j + 1) := by
  rw [Nat.or_comm, leS, Nat.add_comm, ← Nat.shiftLeft_add_eq_or_of_lt (leS_lt g hg j), Nat.shiftLeft_eq]
theorem leS_shl (g : Nat → Nat) (hg : ∀ i, g i < 256) (j : Nat) (hj : j < 8) : g j <<< (8 * j) < 18446744073709551616 := by
  have h := leS_lt g hg (j + 1)
  have h2 : g j * 2 ^ (8 * j) ≤ leS g (j + 1) := by rw [leS]; omega
  have h3 : 2 ^ (8 * (j + 1)) ≤ 2 ^ 64 := Nat.pow_le_pow_right (by decide) (by omega)
  rw [Nat.shiftLeft_eq]
  have h4 : (2 : Nat) ^ 64 = 18446744073709551616 := by decide
  omega
theorem leS_8 (l : List Nat) : leS (fun i => l.getD i 0) 8 = leL l := by
  simp only [leS, leL, le64]
  omega
/-- all steps from a state on -/
def trF (mask x n : Nat) (l : List Nat) : List (Nat × Nat × Nat) := tr mask x l ++ [(mfold mask x l, n, mstep (mfold mask x l) n &&& mask)]
theorem trF_all (mask : Nat) (l : List Nat) : trF mask 0 l.length l = trAll mask l := rfl
theorem trF_nil (mask x n : Nat) (l : List Nat) (h : l.length = 0) : trF mask x n l = [(x, n, mstep x n &&& mask)] := by
  unfold trF; rw [tr_nil _ _ _ h, mfold_nil _ _ _ h]; rfl
theorem trF_step (mask x n : Nat) (l : List Nat) (h : l.length ≠ 0) : trF mask x n l = (x, leL (pad8 l), mstep x (leL (pad8 l)) &&& mask) :: trF mask (mstep x (leL (pad8 l)) &&& mask) n (l.drop 8) := by
  unfold trF; rw [tr_step _ _ _ h, mfold_step _ _ _ h]; rfl
/-- the cells of a step -/
def stC (p : Nat × Nat × Nat) : List Value := [.int .u64 (p.1 : Int), .int .u64 (p.2.1 : Int), .int .u64 (p.2.2 : Int)]
def stCs (l : List (Nat × Nat × Nat)) : List Value := l.flatMap stC
theorem stCs_snoc (l : List (Nat × Nat × Nat)) (p : Nat × Nat × Nat) : stCs (l ++ [p]) = stCs l ++ stC p := by simp [stCs]
end Plain
theorem orStep (g : Nat → Nat) (hg : ∀ i, g i < 256) (j : Nat) (hj : j < 8) : bits .or .u64 ((leS g j : Nat) : Int) (IntKind.u64.wrap ((g j : Int) * 2 ^ (8 * j))) = ((leS g (j + 1) : Nat) : Int) := by
  rw [shl_u64 _ _ (leS_shl g hg j hj), ← leS_or g hg j]
  have h1 := leS_lt g hg j
  have h3 : 2 ^ (8 * j) ≤ 2 ^ 64 := Nat.pow_le_pow_right (by decide) (by omega)
  have h4 : (2 : Nat) ^ 64 = 18446744073709551616 := by decide
  exact (bits_nat .u64 64 (by decide) (fun n a b => by rw [IntKind.wrap_u64]; omega) _ _ (by omega) (by have := leS_shl g hg j hj; omega)).2
theorem leS_congr {g h : Nat → Nat} : ∀ (n : Nat), (∀ t, t < n → g t = h t) → leS g n = leS h n
  | 0, _ => rfl
  | n + 1, e => by rw [leS, leS, leS_congr n (fun t ht => e t (by omega)), e n (by omega)]
theorem getD_pad (l : List Nat) (c j : Nat) : (l ++ List.replicate c 0).getD j 0 = l.getD j 0 := by
  simp only [List.getD_eq_getElem?_getD, List.getElem?_append]
  split
  · rfl
  · rename_i h
    rw [List.getElem?_replicate, List.getElem?_eq_none (by omega)]
    split <;> rfl
theorem pad8_getD (l : List Nat) (t : Nat) (ht : t < 8) : (pad8 l).getD t 0 = l.getD t 0 := by
  unfold pad8
  rw [getD_pad]
  simp [List.getD_eq_getElem?_getD, ht]
theorem leL_full (l : List Nat) (c i : Nat) : leL (pad8 (l.drop i)) = leS (fun t => (l ++ List.replicate c 0).getD (i + t) 0) 8 := by
  rw [← leS_8]
  apply leS_congr
  intro t ht
  show (pad8 (l.drop i)).getD t 0 = (l ++ List.replicate c 0).getD (i + t) 0
  rw [pad8_getD _ t ht, getD_pad]
  simp [List.getD_eq_getElem?_getD]
/-- what is still to come -/
def StRest (mask n x i fsz : Nat) (l : List Nat) (acc : List (Nat × Nat × Nat)) : Prop := (i ≤ fsz ∧ acc ++ trF mask x n (l.drop i) = trAll mask l) ∨ (fsz < i ∧ acc = trAll mask l)
theorem strN_append (s r : ByteArray) : strN (s ++ r) = strN s ++ strN r := by
  simp [strN]
theorem info_taken : (Try.prog.info? 60).map (fun i => (i.zero, i.size, i.bytes)) = some (some (.agg #[.int .u64 0, .int .u64 0, .int .u64 0]), 3, 24) := by kernel_rfl
set_option maxRecDepth 100000 in
set_option maxHeartbeats 1000000 in
theorem steps_any (k : Nat) (s : ByteArray) (w : World) (h1 : 1 ≤ k) (h2 : k ≤ 64) (hs : s.size ≤ 1048576)
    (HR : Hid (∀ (c : Int) (wx : World), 0 ≤ c → c < 8 → Calls Try.prog 36 #[.string ⟨#[0]⟩, .int .i64 c] wx fun e w' => e = .returned (.string (strOf (List.replicate c.toNat 0))) ∧ Below wx.heap.size wx w')) :
    Calls Try.prog 28 #[.int .i64 (k : Int), .string s] w fun e w' => ∃ v, e = .returned v ∧ w'.ownsRow w.heap.size 60 3 v (trAll (maskOf k) (strN s)).length (stCs (trAll (maskOf k) (strN s))) ∧ Below w.heap.size w w' := by
  obtain ⟨i0, hi, hz0, hz1, hz2⟩ := info_parts info_taken
  go_enter Try.func28, Try.ntmps28
  go_wp2_with fail
  refine (HR.out _ _ (by omega) (by omega)).mono ?_
  rintro e w2 ⟨rfl, hb⟩
  obtain ⟨c, hc⟩ : ∃ c : Nat, c = (-((s.size : Int) % 8) % 8).toNat := ⟨_, rfl⟩
  rw [← hc]
  have hr0 := strOf_size (List.replicate c 0)
  obtain ⟨r, hr⟩ : ∃ r, r = strOf (List.replicate c 0) := ⟨_, rfl⟩
  rw [← hr] at hr0 ⊢
  have hr1 : r.size ≤ 7 := by rw [hr0, List.length_replicate]; omega
  have HRR := Lib.hid hr
  have HCC := Lib.hid hc
  clear hr0 hr hc
  have hbig : s.size + r.size ≤ 9223372036854775807 := by omega
  go_wp2_with fail
  have hF0 : (s ++ r).size = s.size + r.size := by rw [← strN_length, strN_append, List.length_append, strN_length, strN_length]
  obtain ⟨F, hF⟩ : ∃ F, F = s ++ r := ⟨_, rfl⟩
  rw [← hF] at hF0 ⊢
  have HFN : Hid (strN F = strN s ++ List.replicate c 0) := by
    show strN F = _
    rw [hF, strN_append, HRR.out, strN_strOf _ (by intro x hx; rw [List.mem_replicate] at hx; omega)]
  have hrc : r.size = c := by rw [HRR.out, strOf_size, List.length_replicate]
  have hcc := HCC.out
  have hF8 : F.size % 8 = 0 := by omega
  have hF1 : s.size ≤ F.size := by omega
  have hF2 : F.size < s.size + 8 := by omega
  have HF8 := Lib.hid hF8
  clear hF0 hrc hcc HRR HCC hF hF8 hbig hr1
  have HB := Lib.hid hb
  clear hb
  go_loopw [5, 6, 8] (fun ov xv iv wr => ∃ (i x : Nat) (acc : List (Nat × Nat × Nat)), iv = .int .i64 (i : Int) ∧ i % 8 = 0 ∧ i ≤ F.size + 8 ∧ xv = .int .u64 (x : Int) ∧ x < M64 ∧ acc.length ≤ i ∧ wr.ownsRow w.heap.size 60 3 ov acc.length (stCs acc) ∧ Below w.heap.size w wr ∧ StRest (maskOf k) s.size x i F.size (strN s) acc) (fun _ _ iv _ => F.size + 8 - (intOf iv).toNat)
  case atStart => exact ⟨0, 0, [], rfl, rfl, by omega, rfl, by decide, by simp, World.ownsRow_nil _ _ _ _, HB.out, .inl ⟨by omega, by rw [← trF_all, strN_length]; rfl⟩⟩
  case round =>
    obtain ⟨i, x, acc, rfl, hi8, hiF, rfl, hx, hal, hown, hbw, hrest⟩ := hrel
    have HI8 := Lib.hid hi8
    have HX := Lib.hid hx
    have HOWN := Lib.hid hown
    have HBW := Lib.hid hbw
    have HREST := Lib.hid hrest
    clear HB hi8 hx hown hbw hrest
    have hw0 : w.heap.size ≤ wr.heap.size := HBW.out.size
    by_cases hle : i ≤ F.size
    · by_cases hlt : i < F.size
      · have n1 : (i : Int) ≤ (F.size : Int) := by omega
        have n2 : (i : Int) < (F.size : Int) := by omega
        have hi88 : i + 8 ≤ F.size := by have := HI8.out; have := HF8.out; omega
        go_wp2_with fail
        have hgl : ∀ t, (strN F).getD (i + t) 0 < 256 := fun t => by
          rw [List.getD_eq_getElem?_getD]
          cases hg : (strN F)[i + t]? with
          | none => decide
          | some v => exact strN_lt F v (List.mem_of_getElem? hg)
        obtain ⟨g, hgf⟩ : ∃ g : Nat → Nat, g = fun t => (strN F).getD (i + t) 0 := ⟨_, rfl⟩
        have HGL : Hid (∀ t, g t < 256) := fun t => by rw [hgf]; exact hgl t
        have HGF := Lib.hid hgf
        clear hgl hgf
        go_loop [9, 33] (fun bv jv => ∃ j : Nat, j ≤ 8 ∧ jv = .int .i64 (j : Int) ∧ bv = .int .u64 ((leS g j : Nat) : Int)) (fun _ jv => 8 - (intOf jv).toNat)
        case atStart => exact ⟨0, by omega, rfl, rfl⟩
        case round =>
          obtain ⟨j, hj, rfl, rfl⟩ := hrel
          by_cases hj8 : j < 8
          · have hin : i + j < F.size := by omega
            have HG : Hid ((F[i + j]'hin).toNat = g j) := by
              show _ = _
              rw [HGF.out]
              show _ = (strN F).getD (i + j) 0
              rw [← strN_getD, List.getD_eq_getElem?_getD, List.getElem?_eq_getElem (by rw [Array.length_toList]; exact hin)]
              rfl
            have hwb : IntKind.u64.wrap (((F[i + j]'hin).toNat : Nat) : Int) = (((F[i + j]'hin).toNat : Nat) : Int) := by have := (F[i + j]'hin).toNat_lt; rw [IntKind.wrap_u64]; omega
            have HO := Lib.hid (orStep g HGL.out j hj8)
            generalize leS g j = b0 at *
            obtain ⟨b1, hb1⟩ : ∃ b1, b1 = leS g (j + 1) := ⟨_, rfl⟩
            rw [← hb1] at HO
            have HB1 := Lib.hid hb1
            clear hb1
            go_wp2_with fail
            go_round
            case rel => exact ⟨j + 1, by omega, by go_num, by rw [HG.out, HO.out, HB1.out]⟩
            case measure => simp [intOf]; omega
          · obtain rfl : j = 8 := by omega
            have hlen : ((strN s).drop i).length ≠ 0 := by rw [List.length_drop, strN_length]; have := HI8.out; have := HF8.out; omega
            have hbl : leS g 8 = leL (pad8 ((strN s).drop i)) := by rw [leL_full _ c, HGF.out, HFN.out]
            have hblt : leL (pad8 ((strN s).drop i)) < M64 := leL_M _ (fun c hc => strN_lt s c (List.mem_of_mem_drop hc))
            rw [← hbl] at hblt
            have hrest := trF_step (maskOf k) x s.size ((strN s).drop i) hlen
            rw [← hbl, List.drop_drop] at hrest
            have HC := Lib.hid fun wx => step_any x (leS g 8) wx HX.out hblt
            have HBLT := Lib.hid hblt
            generalize leS g 8 = bl at *
            have HREST2 := Lib.hid hrest
            clear hbl hblt hrest hlen
            have HY := Lib.hid (cut_int (mstep x bl) k h2)
            have HZ : Hid (mstep x bl &&& maskOf k < M64) := Nat.lt_of_le_of_lt Nat.and_le_left (mstep_lt x bl)
            generalize mstep x bl &&& maskOf k = z at *
            generalize mstep x bl = y at *
            have hwk : IntKind.i64.wrap (64 - (k : Int)) = 64 - (k : Int) := wraps_i64 _ (by omega) (by omega)
            have tk : (64 - (k : Int)).toNat = 64 - k := by omega
            have hk3 : (0 : Int) ≤ 64 - (k : Int) := by omega
            have hcut := HY.out
            go_wp2_with fail
            refine (HC.out _).mono ?_
            rintro e w' ⟨rfl, rfl⟩
            go_wp2_with (at_builtin; go_loud (refine wpList_append_own _ rfl _ _ 57 rfl w.heap.size 60 i0 (.agg #[.int .u64 0, .int .u64 0, .int .u64 0]) 3 24 Try.underlying57 hi hz0 hz1 hz2 rfl (by decide) _ _ _ rfl (HOWN.out.alloc _) ⟨wr.heap.size, 0, none⟩ 1 1 (stC (x, bl, z)) rfl rfl ?c1 ?c2 ?c3 ?c4 ?c5 ?_))
            case c1 => exact cells_new _ _ _
            case c2 => intro u hu; simp [stC] at hu; rcases hu with rfl | rfl | rfl <;> rfl
            case c3 => unfold maxLen; omega
            case c4 => omega
            case c5 => simp; omega
            intro v' w1 hown' hgrow _
            have BW := Lib.hid (below_own (HBW.out.alloc hw0 _) hgrow (by simp; omega) (HOWN.out.alloc _) (Nat.le_refl _))
            have OW : Hid (w1.ownsRow w.heap.size 60 3 v' (acc ++ [(x, bl, z)]).length (stCs (acc ++ [(x, bl, z)]))) := by
              show w1.ownsRow _ _ _ _ _ _
              rw [stCs_snoc, List.length_append]
              exact hown'
            clear hown' hgrow
            go_wp2_with fail
            go_roundw
            case rel =>
              refine ⟨i + 8, z, acc ++ [(x, bl, z)], by go_num, by have := HI8.out; omega, by omega, rfl, HZ.out, by simp; omega, OW.out, BW.out, .inl ⟨hi88, ?_⟩⟩
              rcases HREST.out with ⟨_, h⟩ | ⟨h, _⟩
              · rw [← h, HREST2.out]
                simp
              · omega
            case measure => simp [intOf]; omega
      · have hie : i = F.size := by omega
        have n1 : (i : Int) ≤ (F.size : Int) := by omega
        have n2 : ¬ (i : Int) < (F.size : Int) := by omega
        have hfin : Hid (acc ++ [(x, s.size, mstep x s.size &&& maskOf k)] = trAll (maskOf k) (strN s)) := by
          rcases HREST.out with ⟨_, h⟩ | ⟨h, _⟩
          · rw [trF_nil _ _ _ _ (by rw [List.length_drop, strN_length]; omega)] at h
            exact h
          · omega
        clear hie
        have HC := Lib.hid fun wx => step_any x s.size wx HX.out (by show _ < M64; rw [m64]; omega)
        have HY := Lib.hid (cut_int (mstep x s.size) k h2)
        have HZ : Hid (mstep x s.size &&& maskOf k < M64) := Nat.lt_of_le_of_lt Nat.and_le_left (mstep_lt x s.size)
        generalize mstep x s.size &&& maskOf k = z at *
        generalize mstep x s.size = y at *
        have hwk : IntKind.i64.wrap (64 - (k : Int)) = 64 - (k : Int) := wraps_i64 _ (by omega) (by omega)
        have tk : (64 - (k : Int)).toNat = 64 - k := by omega
        have hk3 : (0 : Int) ≤ 64 - (k : Int) := by omega
        have hcut := HY.out
        go_wp2_with fail
        refine (HC.out _).mono ?_
        rintro e w' ⟨rfl, rfl⟩
        go_wp2_with (at_builtin; go_loud (refine wpList_append_own _ rfl _ _ 57 rfl w.heap.size 60 i0 (.agg #[.int .u64 0, .int .u64 0, .int .u64 0]) 3 24 Try.underlying57 hi hz0 hz1 hz2 rfl (by decide) _ _ _ rfl (HOWN.out.alloc _) ⟨wr.heap.size, 0, none⟩ 1 1 (stC (x, s.size, z)) rfl rfl ?c1 ?c2 ?c3 ?c4 ?c5 ?_))
        case c1 => exact cells_new _ _ _
        case c2 => intro u hu; simp [stC] at hu; rcases hu with rfl | rfl | rfl <;> rfl
        case c3 => unfold maxLen; omega
        case c4 => omega
        case c5 => simp; omega
        intro v' w1 hown' hgrow _
        have BW := Lib.hid (below_own (HBW.out.alloc hw0 _) hgrow (by simp; omega) (HOWN.out.alloc _) (Nat.le_refl _))
        have OW : Hid (w1.ownsRow w.heap.size 60 3 v' (acc ++ [(x, s.size, z)]).length (stCs (acc ++ [(x, s.size, z)]))) := by
          show w1.ownsRow _ _ _ _ _ _
          rw [stCs_snoc, List.length_append]
          exact hown'
        clear hown' hgrow
        go_wp2_with fail
        go_roundw
        case rel => exact ⟨i + 8, z, acc ++ [(x, s.size, z)], by go_num, by have := HI8.out; omega, by omega, rfl, HZ.out, by simp; omega, OW.out, BW.out, .inr ⟨by omega, hfin.out⟩⟩
        case measure => simp [intOf]; omega
    · have n1 : ¬ (i : Int) ≤ (F.size : Int) := by omega
      have hfin : Hid (acc = trAll (maskOf k) (strN s)) := by
        rcases HREST.out with ⟨h, _⟩ | ⟨_, h⟩
        · omega
        · exact h
      go_wp2_with fail
      go_ret
      exact ⟨_, rfl, by rw [← hfin.out]; exact HOWN.out, HBW.out⟩
end Go.Proofs.Ytcocdlhjfbpkfaa
