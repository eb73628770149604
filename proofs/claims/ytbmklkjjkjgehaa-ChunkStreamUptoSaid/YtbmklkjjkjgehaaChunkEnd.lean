/- The walk of chunk.end: where the first piece ends. -/
import Derived.Test.YtbmklkjjkjgehaaRollPush
import Derived.Test.YtbmklkjjkjgehaaDrawn
import Derived.Test.YtbmklkjjkjgehaaChunkPlain
import Derived.Test.YtbmklkjjkjgehaaAppend
import Derived.Deep.QuietTactic
import Derived.BigQuiet
namespace Go.Proofs.Ytbmklkjjkjgehaa
open Go.RowKit Plain
theorem byte_at (s : ByteArray) (k : Nat) (h : k < s.size) : (s[k]).toNat = (strN s).getD k 0 := by
  rw [← strN_getD, List.getD_eq_getElem?_getD, List.getElem?_eq_getElem (by rw [Array.length_toList]; exact h)]
  rfl
theorem range_of_row {w : World} {b : Nat} {t : TypeId} {cs : Array Value} (h : w.heap[b]? = some (.cells cs t (0, 0))) : w.rangeAt b 0 cs.toList := by
  intro j v hv
  rw [cell_of_row _ _ _ _ _ _ h]
  simpa using hv
theorem rof_bound (l : List Nat) (h : ∀ c ∈ l, c < 256) : rof l < 2147483648 := rof_lt l h
theorem take_getD_succ (l : List Nat) (k : Nat) (h : k < l.length) : l.take (k + 1) = l.take k ++ [l.getD k 0] := by
  rw [List.take_succ_eq_append_getElem h, List.getD_eq_getElem?_getD, List.getElem?_eq_getElem h]
  rfl
/-- the rule of a cut -/
def cutRule (mn mx b : Nat) : Rule := ⟨mn, mx, fun l => rof l % 2 ^ b == 0⟩
def cutV (mn mx b : Nat) : Value := .agg #[.int .i64 (mn : Int), .int .i64 (mx : Int), .int .i64 (b : Int)]
def EndEnd (w0 : World) (R : Rule) (l : List Nat) (e : Ending) (w : World) : Prop := ∃ k : Nat, R.End l k ∧ e = .returned (.int .i64 (k : Int)) ∧ Below w0.heap.size w0 w
theorem and_low (x b : Nat) (hx : x < 2147483648) (hb : b ≤ 12) : bits .and .u32 (x : Int) (((2 : Int) ^ b - 1) % 4294967296) = ((x % 2 ^ b : Nat) : Int) := by
  have hb2 : 2 ^ b ≤ 2 ^ 12 := Nat.pow_le_pow_right (by decide) hb
  have hp := Nat.two_pow_pos b
  have h := u32_and_nat x (2 ^ b - 1) (by omega) (by omega)
  rw [Nat.and_two_pow_sub_one_eq_mod] at h
  have e : (((2 : Int) ^ b - 1) % 4294967296) = ((2 ^ b - 1 : Nat) : Int) := by
    have : ((2 : Int) ^ b) = ((2 ^ b : Nat) : Int) := by simp
    rw [this]
    omega
  rw [e]
  exact h
/-- the world at the loop's head -/
def Head (w : World) (mn mx b : Nat) (l : List Nat) (k : Nat) (wr : World) : Prop :=
  ∃ win', Win (l.take k) win' ∧ wr.heap[w.heap.size]? = some (.cells #[.int .i64 (mn : Int), .int .i64 (mx : Int), .int .i64 (b : Int)] 23 (0, 0)) ∧ wr.heap[w.heap.size + 1]? = some (.cells (rC win' ((l.take k).length % 16) (rof (l.take k))) 143 (0, 0)) ∧ Below w.heap.size w wr
set_option maxRecDepth 100000 in
set_option maxHeartbeats 2000000 in
theorem end_any (mn mx b : Nat) (s : ByteArray) (w : World) (hb1 : b ≤ 12) (hs : s.size ≤ 9223372036854775806) :
    Calls Try.prog 77 #[cutV mn mx b, .string s] w (EndEnd w (cutRule mn mx b) (strN s)) := by
  have i46' : (Try.prog.info? 143).map (·.size) = some 18 := by kernel_rfl
  have i46 := Lib.hid i46'
  have H0 : Hid (Head w mn mx b (strN s) 0 ((w.alloc (.cells #[.int .i64 (mn : Int), .int .i64 (mx : Int), .int .i64 (b : Int)] 23)).alloc (.cells #[Value.int IntKind.u8 0, Value.int IntKind.u8 0, Value.int IntKind.u8 0, Value.int IntKind.u8 0, Value.int IntKind.u8 0, Value.int IntKind.u8 0, Value.int IntKind.u8 0, Value.int IntKind.u8 0, Value.int IntKind.u8 0, Value.int IntKind.u8 0, Value.int IntKind.u8 0, Value.int IntKind.u8 0, Value.int IntKind.u8 0, Value.int IntKind.u8 0, Value.int IntKind.u8 0, Value.int IntKind.u8 0, Value.int IntKind.i64 0, Value.int IntKind.u32 0] 143))) := by
    refine ⟨List.replicate 16 0, by simpa using Win.nil, ?_, ?_, ((Below.refl _ _).alloc (Nat.le_refl _) _).alloc (by simp) _⟩
    · exact (Below.heap_alloc _ _ _ (by simp)).trans (heap_alloc_new w _)
    · have := heap_alloc_new (w.alloc (.cells #[.int .i64 (mn : Int), .int .i64 (mx : Int), .int .i64 (b : Int)] 23)) (.cells #[Value.int IntKind.u8 0, Value.int IntKind.u8 0, Value.int IntKind.u8 0, Value.int IntKind.u8 0, Value.int IntKind.u8 0, Value.int IntKind.u8 0, Value.int IntKind.u8 0, Value.int IntKind.u8 0, Value.int IntKind.u8 0, Value.int IntKind.u8 0, Value.int IntKind.u8 0, Value.int IntKind.u8 0, Value.int IntKind.u8 0, Value.int IntKind.u8 0, Value.int IntKind.u8 0, Value.int IntKind.u8 0, Value.int IntKind.i64 0, Value.int IntKind.u32 0] 143)
      rw [World.size_alloc] at this
      exact this
  have hlen : s.size = (strN s).length := (strN_length s).symm
  have HLEN := Lib.hid hlen
  clear hlen i46'
  have N64 : (s.size : Int) ≤ 9223372036854775806 := by omega
  unfold cutV
  go_enter Try.func77, Try.ntmps77
  go_wp2_with fail
  go_loopw [10] (fun i wr => ∃ k : Nat, k ≤ s.size ∧ Head w mn mx b (strN s) k wr ∧ (∀ j, 1 ≤ j → j ≤ k → ¬ (cutRule mn mx b).hit (strN s) j) ∧ i = .int .i64 k) (fun i _ => s.size - (intOf i).toNat)
  case atStart => exact ⟨0, Nat.zero_le _, H0.out, (fun j h1 h2 => by omega), rfl⟩
  case round =>
    obtain ⟨k, hk, hhead, hno, rfl⟩ := hrel
    clear H0
    have HNO := Lib.hid hno
    clear hno
    by_cases hlt : k < s.size
    · obtain ⟨wn, hwn, hC, hR, hB⟩ := hhead
      have HWN := Lib.hid hwn
      have RC := Lib.hid hC
      have R := Lib.hid hR
      have BW := Lib.hid hB
      clear hC hR hB
      have hl : Hid (∀ c ∈ (strN s).take k, c < 256) := fun c hc => strN_lt s c (List.mem_of_mem_take hc)
      have hl2 : Hid (∀ c ∈ (strN s).take (k + 1), c < 256) := fun c hc => strN_lt s c (List.mem_of_mem_take hc)
      have hst : (strN s).take (k + 1) = (strN s).take k ++ [(s[k]'hlt).toNat] := by rw [byte_at s k hlt]; exact take_getD_succ _ k (by rw [← HLEN.out]; exact hlt)
      have hb256 : (s[k]'hlt).toNat < 256 := UInt8.toNat_lt _
      have hsum := rof_bound _ hl.out
      have hsum2 := rof_bound _ hl2.out
      have hpush := rof_push ((strN s).take k) (s[k]'hlt).toNat
      rw [← hwn.old] at hpush
      have hwn2 := hwn.push (s[k]'hlt).toNat hb256
      have hat : ((strN s).take k).length % 16 < 16 := Nat.mod_lt _ (by decide)
      have hat2 : (((strN s).take k).length % 16 + 1) % 16 = ((strN s).take (k + 1)).length % 16 := by
        rw [hst, List.length_append, List.length_singleton]; omega
      have HP := Lib.hid fun wx => push_any wn (((strN s).take k).length % 16) (rof ((strN s).take k)) (s[k]'hlt).toNat wx hwn.1 hwn.2.1 hat hsum hb256
      rw [← hst] at hpush hwn2
      rw [← hpush, hat2] at HP
      have HWN2 := Lib.hid hwn2
      have s1 : Hid ((rC wn (((strN s).take k).length % 16) (rof ((strN s).take k))).size = 18) := rC_size _ _ _ hwn.1
      have s2 : Hid ((rC (wn.set (((strN s).take k).length % 16) (s[k]'hlt).toNat) (((strN s).take (k + 1)).length % 16) (rof ((strN s).take (k + 1)))).size = 18) := rC_size _ _ _ hwn2.1
      have o2 : Hid ((rC (wn.set (((strN s).take k).length % 16) (s[k]'hlt).toNat) (((strN s).take (k + 1)).length % 16) (rof ((strN s).take (k + 1)))).all (·.oneCell') = true) := rC_one _ _ _
      have q17 : Hid ((rC (wn.set (((strN s).take k).length % 16) (s[k]'hlt).toNat) (((strN s).take (k + 1)).length % 16) (rof ((strN s).take (k + 1))))[17]? = some (.int .u32 (rof ((strN s).take (k + 1)) : Int))) := rC_sum _ _ _ hwn2.1
      have HMOD : Hid ((cutRule mn mx b).hit (strN s) (k + 1) ↔ (k + 1 = mx ∨ (mn ≤ k + 1 ∧ rof ((strN s).take (k + 1)) % 2 ^ b = 0))) := by
        show _ ↔ _
        unfold Rule.hit cutRule
        simp only [beq_iff_eq]
      have AND := and_low (rof ((strN s).take (k + 1))) b (by omega) hb1
      clear hst hsum hpush hwn2 hat hat2 hwn
      generalize wn.set (((strN s).take k).length % 16) (s[k]'hlt).toNat = wn2 at *
      obtain ⟨SM, hSM⟩ : ∃ SM, SM = rof ((strN s).take (k + 1)) := ⟨_, rfl⟩
      rw [← hSM] at HP s2 o2 q17 HMOD AND hsum2
      have HSM := Lib.hid hSM
      clear hSM
      obtain ⟨C2, hC2⟩ : ∃ C2, C2 = rC wn2 (((strN s).take (k + 1)).length % 16) SM := ⟨_, rfl⟩
      obtain ⟨C1, hC1⟩ : ∃ C1, C1 = rC wn (((strN s).take k).length % 16) (rof ((strN s).take k)) := ⟨_, rfl⟩
      rw [← hC2] at HP s2 o2 q17
      rw [← hC1] at HP s1 R
      have HC2 := Lib.hid hC2
      clear hC1 hC2 hl hl2
      have kk : (k : Int) < (s.size : Int) := by omega
      have k0 : (0 : Int) ≤ (k : Int) := Int.natCast_nonneg _
      have ic1 : (Try.prog.info? 143).map (·.size) = some C1.toList.length := by rw [Array.length_toList, s1.out]; exact i46.out
      have ic2 : (Try.prog.info? 143).map (·.size) = some C2.size := by rw [s2.out]; exact i46.out
      have hu := Try.underlying143
      have HAND := Lib.hid AND
      clear AND
      go_wp2_with fail
      refine wp_region_noPanic ?_
      refine wp_region_held_drew (S := fun _ => True) (by kernel_rfl) trivial (fun _ => ?_)
      have Rv : Hid (wr.drew.heap[w.heap.size + 1]? = some (.cells C1 143 (0, 0))) := R.out
      have Cv : Hid (wr.drew.heap[w.heap.size]? = some (.cells #[.int .i64 (mn : Int), .int .i64 (mx : Int), .int .i64 (b : Int)] 23 (0, 0))) := RC.out
      have Bv : Hid (Below w.heap.size w wr.drew) := BW.out.drew
      clear R RC BW
      generalize wr.drew = v0 at *
      refine take_val 1 (.string s) rfl (by kernel_rfl) (by kernel_rfl) (by kernel_rfl) (fun _ _ _ _ h => h) (by rfl) rfl (fun w _ => by go_simp) trivial ?_
      try simp only [List.set_cons_zero, List.set_cons_succ]
      refine take_val 2 (.int .i64 (k : Int)) rfl (by kernel_rfl) (by kernel_rfl) (by kernel_rfl) (fun _ _ _ _ h => h) (by rfl) rfl (fun w _ => by go_simp) trivial ?_
      try simp only [List.set_cons_zero, List.set_cons_succ]
      refine take_val 3 (.int .u8 (((s[k]'hlt).toNat : Nat) : Int)) rfl (by kernel_rfl) (by kernel_rfl) (by kernel_rfl) (fun _ _ _ _ h => h) (by rfl) rfl (fun w _ => by go_simp) trivial ?_
      try simp only [List.set_cons_zero, List.set_cons_succ]
      refine one_ready 0 (by kernel_rfl) rfl (by rfl) (fun K hK => ?_)
      refine wp_load_mid _ _ rfl (w.heap.size + 1) 0 rfl C1.toList _ (range_of_row Rv.out) hu rfl ic1 ?_
      rw [put_eq rfl]
      try simp only [List.set_cons_zero, List.set_cons_succ, Array.toArray_toList]
      refine hK.out _ _ trivial ?_
      clear hK K
      refine one_ready 4 (by kernel_rfl) rfl (by rfl) (fun K hK => ?_)
      go_simp
      refine (HP.out _).mono ?_
      rintro e v1 ⟨rfl, hb1⟩
      go_wp2_with fail
      refine hK.out _ _ trivial ?_
      clear hK K
      try simp only [Act.put, List.setIfInBounds_toArray, List.set_cons_zero, List.set_cons_succ]
      have R1 := (hb1.block _ (lt_of_block Rv.out)).trans Rv.out
      have T1 := (hb1.block _ (lt_of_block Cv.out)).trans Cv.out
      have B1 := Below.step Bv.out hb1
      have hth : Hid (v1.there (w.heap.size + 1) 0 C2.size) := by have := row_there R1; rw [s1.out] at this; rw [s2.out]; exact this
      have R2 : Hid ((v1.setCells (w.heap.size + 1) 0 C2.toList).heap[w.heap.size + 1]? = some (.cells C2 143 (0, 0))) := setCells_full R1 _ (by rw [s1.out, s2.out])
      have T2 : Hid ((v1.setCells (w.heap.size + 1) 0 C2.toList).heap[w.heap.size]? = some (.cells #[.int .i64 (mn : Int), .int .i64 (mx : Int), .int .i64 (b : Int)] 23 (0, 0))) := (heap_setCells_other _ _ (by omega) _ _ _).trans T1
      have B2 : Hid (Below w.heap.size w (v1.setCells (w.heap.size + 1) 0 C2.toList)) := below_setCells (by omega) _ _ B1
      clear Rv Cv Bv R1 T1 B1 hb1 HP
      refine take_val 5 (.tuple #[.agg C2, .int .i64 0]) rfl (by kernel_rfl) (by kernel_rfl) (by kernel_rfl) (fun _ _ _ _ h => h) (by rfl) rfl (fun w _ => by go_simp) trivial ?_
      try simp only [List.set_cons_zero, List.set_cons_succ]
      refine take_val 6 (.agg C2) rfl (by kernel_rfl) (by kernel_rfl) (by kernel_rfl) (fun _ _ _ _ h => h) (by rfl) rfl (fun w _ => by go_simp) trivial ?_
      try simp only [List.set_cons_zero, List.set_cons_succ]
      refine take_val 7 (.int .i64 0) rfl (by kernel_rfl) (by kernel_rfl) (by kernel_rfl) (fun _ _ _ _ h => h) (by rfl) rfl (fun w _ => by go_simp) trivial ?_
      try simp only [List.set_cons_zero, List.set_cons_succ]
      refine one_ready 8 (by kernel_rfl) rfl (by rfl) (fun K hK => ?_)
      refine wp_store_mid _ _ _ rfl (w.heap.size + 1) 0 C2 rfl rfl hth.out ic2 o2.out ?_
      refine hK.out _ _ trivial ?_
      clear hK K
      try simp only [Act.put]
      clear hth
      generalize v1.setCells (w.heap.size + 1) 0 C2.toList = v2 at *
      refine wpAnyH_done (by kernel_rfl) ?_ _
      refine NoPanic.normal ?_
      have c0 := cell_of_row v2 w.heap.size 0 _ _ _ T2.out
      have c1 := cell_of_row v2 w.heap.size 1 _ _ _ T2.out
      have c2 := cell_of_row v2 w.heap.size 2 _ _ _ T2.out
      have c17 := (cell_of_row v2 (w.heap.size + 1) 17 _ _ _ R2.out).trans q17.out
      simp only [List.getElem?_toArray, List.getElem?_cons_zero, List.getElem?_cons_succ] at c0 c1 c2
      have HQ : Hid (Head w mn mx b (strN s) (k + 1) v2) := ⟨wn2, HWN2.out, T2.out, by have h := R2.out; rw [HC2.out, HSM.out] at h; exact h, B2.out⟩
      have BV := Lib.hid B2.out
      clear T2 R2 B2 q17 o2 s1 s2 ic1 ic2 i46 hu HWN HWN2
      have e1 : IntKind.i64.wrap ((k : Int) + 1) = (k : Int) + 1 := IntWalk.i64_in _ (by omega)
      by_cases g1 : k + 1 = mx
      · have HE : Hid ((cutRule mn mx b).End (strN s) (k + 1)) := .inr ⟨by omega, by rw [← HLEN.out]; omega, HMOD.out.2 (.inl g1), fun j h1 h2 => HNO.out j h1 (by omega)⟩
        have f1 : (((k : Int) + 1) == (mx : Int)) = true := beq_iff_eq.2 (by omega)
        clear HMOD HNO
        go_wp2_with fail
        go_quiet (fail)
        go_wp2_with fail
        go_ret
        exact ⟨k + 1, HE.out, rfl, by first | exact BV.out | exact below_dn BV.out _⟩
      · have f1 : (((k : Int) + 1) == (mx : Int)) = false := beq_eq_false_iff_ne.2 (by omega)
        by_cases g2 : mn ≤ k + 1
        · have f2 : decide ((mn : Int) ≤ (k : Int) + 1) = true := by simp; omega
          by_cases g3 : SM % 2 ^ b = 0
          · have HE : Hid ((cutRule mn mx b).End (strN s) (k + 1)) := .inr ⟨by omega, by rw [← HLEN.out]; omega, HMOD.out.2 (.inr ⟨g2, g3⟩), fun j h1 h2 => HNO.out j h1 (by omega)⟩
            have f3 : (bits .and .u32 (SM : Int) (((2 : Int) ^ b - 1) % 4294967296) == 0) = true := by rw [HAND.out, g3]; rfl
            clear HMOD HNO HAND g3
            go_wp2_with fail
            go_quiet (fail)
            go_wp2_with fail
            go_ret
            exact ⟨k + 1, HE.out, rfl, below_dn BV.out _⟩
          · have HN2 : Hid (∀ j, 1 ≤ j → j ≤ k + 1 → ¬ (cutRule mn mx b).hit (strN s) j) := fun j h1 h2 => by
              by_cases e : j = k + 1
              · subst e; intro h; rcases HMOD.out.1 h with h | h
                · exact g1 h
                · exact g3 h.2
              · exact HNO.out j h1 (by omega)
            have f3 : (bits .and .u32 (SM : Int) (((2 : Int) ^ b - 1) % 4294967296) == 0) = false := by rw [HAND.out]; exact beq_eq_false_iff_ne.2 (by omega)
            have HQ2 : Hid (∀ n, Head w mn mx b (strN s) (k + 1) (v2.drewN n)) := fun n => by
              obtain ⟨a1, a2, a3, a4, a5⟩ := HQ.out
              exact ⟨a1, a2, a3, a4, below_dn a5 n⟩
            clear HMOD HNO HAND g3
            go_wp2_with fail
            go_quiet (fail)
            go_wp2_with fail
            go_roundw
            case rel => exact ⟨k + 1, by omega, HQ2.out _, HN2.out, by go_num⟩
            case measure => simp [intOf]; omega
        · have f2 : decide ((mn : Int) ≤ (k : Int) + 1) = false := by simp; omega
          have HN2 : Hid (∀ j, 1 ≤ j → j ≤ k + 1 → ¬ (cutRule mn mx b).hit (strN s) j) := fun j h1 h2 => by
            by_cases e : j = k + 1
            · subst e; intro h; rcases HMOD.out.1 h with h | h
              · exact g1 h
              · exact g2 h.1
            · exact HNO.out j h1 (by omega)
          have HQ2 : Hid (∀ n, Head w mn mx b (strN s) (k + 1) (v2.drewN n)) := fun n => by
            obtain ⟨a1, a2, a3, a4, a5⟩ := HQ.out
            exact ⟨a1, a2, a3, a4, below_dn a5 n⟩
          clear HMOD HNO HAND
          go_wp2_with fail
          go_quiet (fail)
          go_wp2_with fail
          go_roundw
          case rel => exact ⟨k + 1, by omega, HQ2.out _, HN2.out, by go_num⟩
          case measure => simp [intOf]; omega
    · obtain ⟨_, _, _, _, hB⟩ := hhead
      have BV := Lib.hid hB
      have HE : Hid ((cutRule mn mx b).End (strN s) 0) := .inl ⟨rfl, fun j h1 h2 => HNO.out j h1 (by rw [← HLEN.out] at h2; omega)⟩
      have m1 : ¬ (k : Int) < (s.size : Int) := by omega
      clear HNO hB
      go_wp2_with fail
      go_ret
      exact ⟨0, HE.out, rfl, BV.out⟩
end Go.Proofs.Ytbmklkjjkjgehaa
