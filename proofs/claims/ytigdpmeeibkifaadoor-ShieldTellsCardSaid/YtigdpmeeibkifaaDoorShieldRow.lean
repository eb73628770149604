/- shield.row: the factors of a shard, as a row of bytes. -/
import Derived.Test.YtigdpmeeibkifaaDoorFieldW
import Derived.Test.YtigdpmeeibkifaaDoorMem
import Derived.Test.YtigdpmeeibkifaaDoorRowKit
import Derived.Test.YtigdpmeeibkifaaDoorShieldGauss
namespace Go.Proofs.YtigdpmeeibkifaaDoor
open Go.RowKit Plain
def mapr (n : Nat) (f : Nat → Nat) : List Nat := (List.range n).map f
theorem mapr_length (n : Nat) (f : Nat → Nat) : (mapr n f).length = n := by simp [mapr]
theorem mapr_getD {n : Nat} {f : Nat → Nat} {k : Nat} (h : k < n) : (mapr n f).getD k 0 = f k := by
  rw [List.getD_eq_getElem?_getD, List.getElem?_eq_getElem (by rw [mapr_length]; exact h)]
  simp [mapr]
theorem mapr_congr {n : Nat} {f g : Nat → Nat} (h : ∀ k, k < n → f k = g k) : mapr n f = mapr n g := by
  unfold mapr
  exact List.map_congr_left fun k hk => h k (List.mem_range.1 hk)
theorem mapr_set {n i : Nat} (f : Nat → Nat) (v : Nat) : (mapr n f).set i v = mapr n fun k => if k = i then v else f k := by
  apply List.ext_getElem
  · simp [mapr]
  · intro k h1 h2
    simp only [mapr, List.getElem_set, List.getElem_map, List.getElem_range]
    by_cases e : i = k
    · rw [if_pos e, if_pos e.symm]
    · rw [if_neg e, if_neg (Ne.symm e)]
theorem mapr_zero (n : Nat) : List.replicate n 0 = mapr n fun _ => 0 := by
  apply List.ext_getElem
  · simp [mapr]
  · intro k h1 h2
    simp [mapr]
theorem mapr_lt {n : Nat} {f : Nat → Nat} (h : ∀ k, k < n → f k < 256) : ∀ c ∈ mapr n f, c < 256 := by
  intro c hc
  obtain ⟨k, hk, rfl⟩ := List.mem_map.1 hc
  exact h k (List.mem_range.1 hk)
theorem infoU8 : (Tryd.prog.info? 5).map (fun i => (i.zero, i.size, i.bytes)) = some (some (.int .u8 0), 1, 1) := by kernel_rfl
theorem inv_any (a : Nat) (w : World) (ha : a < 256) :
    Calls Tryd.prog 20 #[.int .u8 a] w fun e w' => (∃ c : Int, e = .returned (.tuple #[.int .u8 (finv a : Nat), .int .i64 c])) ∧ w' = w := by
  by_cases h0 : a = 0
  · subst h0
    go_enter Tryd.func20, Tryd.ntmps20
    go_wp2
    go_ret2
    exact ⟨⟨_, rfl⟩, rfl⟩
  · have HR : Hid (fpow a 254 = finv a) := by show _ = _; unfold finv; rw [if_neg h0]
    have z1 : ((a : Int) == 0) = false := by simp; omega
    have z2 : ¬ ((a : Int) = 0) := by omega
    have HP := Lib.hid fun wx => power_any a 254 wx ha (by decide)
    clear h0
    go_enter Tryd.func20, Tryd.ntmps20
    go_wp2_with fail
    refine (HP.out _).mono ?_
    rintro e w' ⟨rfl, rfl⟩
    rw [HR.out]
    go_wp2_with fail
    go_ret2
    exact ⟨⟨_, rfl⟩, rfl⟩
def RwEnd (n s : Nat) (w0 : World) (e : Ending) (w : World) : Prop := Below w0.heap.size w0 w ∧ ∃ B, e = .returned (.slice (some ⟨B, 0, none⟩) n n) ∧ w0.heap.size ≤ B ∧ BRow w 5 B (mapr n (rowF n s))
set_option maxRecDepth 100000 in
set_option maxHeartbeats 1000000 in
theorem row_any (s n : Nat) (w : World) (hn : n ≤ 16) (hs : s < n + 8) :
    Calls Tryd.prog 15 #[.int .i64 s, .int .i64 n] w (RwEnd n s w) := by
  have hmk := fun (wx : World) => run_make_bytes (P := Tryd.prog) wx 34 5 Tryd.underlying34 infoU8 (n : Int) (by omega) (by omega)
  have z0 : (BRow (w.alloc (.cells (Array.replicate n (bV 0)) 5)) 5 w.heap.size (mapr n fun _ => 0)) := by
    have := BRow.zeros w 5 n
    rwa [mapr_zero] at this
  have HZ := Lib.hid z0
  have HB0 : Hid (Below w.heap.size w (w.alloc (.cells (Array.replicate n (bV 0)) 5))) := Lib.hid ((Below.refl _ w).alloc (Nat.le_refl _) _)
  clear z0
  simp only [Int.toNat_natCast] at hmk
  by_cases hlt : s < n
  · have m1 : (s : Int) < (n : Int) := by omega
    have m2 : (0 : Int) ≤ (s : Int) := by omega
    have hcell := HZ.out.cell (k := s) (by rw [mapr_length]; exact hlt)
    have hfr := HZ.out.frozen s
    have HE : Hid (RwEnd n s w (.returned (.slice (some ⟨w.heap.size, 0, none⟩) n n)) (w.alloc (.cells ((Array.replicate n (bV 0)).setIfInBounds s (.int .u8 1)) 5))) := by
      refine ⟨(Below.refl _ w).alloc (Nat.le_refl _) _, _, rfl, Nat.le_refl _, ?_⟩
      have e : mapr n (rowF n s) = (List.replicate n 0).set s 1 := by
        rw [mapr_zero, mapr_set]
        exact mapr_congr fun k hk => by unfold rowF; rw [if_pos hlt]
      have e2 : ((Array.replicate n (bV 0)).setIfInBounds s (.int .u8 1)) = (((List.replicate n 0).set s 1).map bV).toArray := by
        rw [List.map_set, List.map_replicate]
        apply Array.ext'
        simp [bV]
      rw [e, e2]
      exact BRow.new w 5 _
    go_enter Tryd.func15, Tryd.ntmps15
    go_wp2_with fail
    go_ret
    exact HE.out
  · have m1 : ¬ (s : Int) < (n : Int) := by omega
    go_enter Tryd.func15, Tryd.ntmps15
    go_wp2_with fail
    clear hmk
    generalize w.alloc (.cells (Array.replicate n (bV 0)) 5) = w1 at *
    have HBB : Hid (w.heap.size ≤ w.heap.size) := Nat.le_refl _
    generalize hB : w.heap.size = B at HZ HBB ⊢
    have HBE := Lib.hid hB
    clear hB
    go_loopw [18] (fun iv wr => ∃ i : Nat, i ≤ n ∧ iv = .int .i64 (i : Int) ∧ Below w.heap.size w wr ∧ BRow wr 5 B (mapr n fun k => if k < i then rowF n s k else 0)) (fun iv _ => n - (intOf iv).toNat)
    case atStart => exact ⟨0, by omega, rfl, HB0.out, by simpa using HZ.out⟩
    case round =>
      obtain ⟨i, hi, rfl, hbr, hrow⟩ := hrel
      have HBR := Lib.hid hbr
      have HR := Lib.hid hrow
      clear hbr hrow
      by_cases hin : i < n
      · have n1 : (i : Int) < (n : Int) := by omega
        have n0 : (0 : Int) ≤ (i : Int) := by omega
        have hx : 128 + s - n < 256 := by omega
        have e1 : ((128 : Int) + (s : Int) - (n : Int)) = ((128 + s - n : Nat) : Int) := by omega
        have HX := Lib.hid (u8_xor_nat (128 + s - n) i hx (by omega))
        have hcell := HR.out.cell (k := i) (by rw [mapr_length]; exact hin)
        have hfr := HR.out.frozen i
        have HI := Lib.hid fun wx => inv_any ((128 + s - n) ^^^ i) wx (xor_lt hx (by omega))
        have HS : Hid (∀ u : World, BRow u 5 B (mapr n fun k => if k < i then rowF n s k else 0) → BRow (u.setCell ⟨B, i, none⟩ (.int .u8 ((finv ((128 + s - n) ^^^ i) : Nat) : Int))) 5 B (mapr n fun k => if k < i + 1 then rowF n s k else 0)) := Lib.hid fun u hu => by
          have := hu.set i (finv ((128 + s - n) ^^^ i))
          rw [mapr_set] at this
          have e : (mapr n fun k => if k = i then finv ((128 + s - n) ^^^ i) else if k < i then rowF n s k else 0) = mapr n fun k => if k < i + 1 then rowF n s k else 0 := mapr_congr fun k hk => by
            by_cases q : k = i
            · rw [if_pos q, if_pos (by omega)]
              unfold rowF
              rw [if_neg (by omega), q]
            · rw [if_neg q]
              by_cases q2 : k < i
              · rw [if_pos q2, if_pos (by omega)]
              · rw [if_neg q2, if_neg (by omega)]
          rwa [e] at this
        go_wp2_with fail
        rw [HX.out]
        refine (HI.out _).mono ?_
        rintro e w' ⟨⟨c, rfl⟩, rfl⟩
        go_wp2_with fail
        go_roundw
        case rel => exact ⟨i + 1, by omega, by go_num, HBR.out.setCell (by rw [HBE.out]; exact Nat.le_refl _) _, HS.out _ HR.out⟩
        case measure => simp [intOf]; omega
      · have n1 : ¬ (i : Int) < (n : Int) := by omega
        have HE : Hid (mapr n (fun k => if k < i then rowF n s k else 0) = mapr n (rowF n s)) := Lib.hid (mapr_congr fun k hk => by rw [if_pos (by omega)])
        go_wp2_with fail
        go_ret
        exact ⟨HBR.out, B, rfl, by rw [HBE.out]; exact Nat.le_refl _, by rw [← HE.out]; exact HR.out⟩
end Go.Proofs.YtigdpmeeibkifaaDoor
