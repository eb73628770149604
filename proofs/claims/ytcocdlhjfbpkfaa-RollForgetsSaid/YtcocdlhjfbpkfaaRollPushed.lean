/- The walk of pushed: bytes that are pushed one behind the other. -/
import Derived.Test.YtcocdlhjfbpkfaaRollPush
import Derived.Test.YtcocdlhjfbpkfaaDrawn
namespace Go.Proofs.Ytcocdlhjfbpkfaa
open Go.RowKit Plain
theorem byte_at (s : ByteArray) (k : Nat) (h : k < s.size) : (s[k]).toNat = (strN s).getD k 0 := by
  rw [← strN_getD, List.getD_eq_getElem?_getD, List.getElem?_eq_getElem (by rw [Array.length_toList]; exact h)]
  rfl
theorem range_of_row {w : World} {b : Nat} {t : TypeId} {cs : Array Value} (h : w.heap[b]? = some (.cells cs t (0, 0))) : w.rangeAt b 0 cs.toList := by
  intro j v hv
  rw [cell_of_row _ _ _ _ _ _ h]
  simpa using hv
theorem rof_bound (l : List Nat) (h : ∀ c ∈ l, c < 256) : rof l < 2147483648 := rof_lt l h
theorem take_getD_succ (l : List Nat) (k : Nat) (h : k < l.length) : l.take (k + 1) = l.take k ++ [l.getD k 0] := by
  rw [List.take_succ_eq_append_getElem h, List.getD_eq_getElem?_getD, List.getElem?_eq_getElem h]
  rfl
set_option maxRecDepth 100000 in
set_option maxHeartbeats 2000000 in
theorem pushed_any (win l0 : List Nat) (s : ByteArray) (w : World) (hW : Win l0 win) (hl0 : ∀ c ∈ l0, c < 256) (hs : s.size ≤ 9223372036854775807) :
    Calls Try.prog 23 #[.agg (rC win (l0.length % 16) (rof l0)), .string s] w fun e w' =>
      (∃ win', Win (l0 ++ strN s) win' ∧ e = .returned (.tuple #[.agg (rC win' ((l0 ++ strN s).length % 16) (rof (l0 ++ strN s))), .bool true])) ∧ Below w.heap.size w w' := by
  have i46' : (Try.prog.info? 46).map (·.size) = some 18 := by kernel_rfl
  have i46 := Lib.hid i46'
  have HWin := Lib.hid hW
  have HL0 := Lib.hid hl0
  have r0' : ((w.alloc (.cells (rC win (l0.length % 16) (rof l0)) 46)).alloc (.cells #[Value.int IntKind.u8 0, Value.int IntKind.u8 0, Value.int IntKind.u8 0, Value.int IntKind.u8 0, Value.int IntKind.u8 0, Value.int IntKind.u8 0, Value.int IntKind.u8 0, Value.int IntKind.u8 0, Value.int IntKind.u8 0, Value.int IntKind.u8 0, Value.int IntKind.u8 0, Value.int IntKind.u8 0, Value.int IntKind.u8 0, Value.int IntKind.u8 0, Value.int IntKind.u8 0, Value.int IntKind.u8 0, Value.int IntKind.i64 0, Value.int IntKind.u32 0] 46)).heap[w.heap.size]? = some (.cells (rC win (l0.length % 16) (rof l0)) 46 (0, 0)) := (Below.heap_alloc _ _ _ (by simp)).trans (heap_alloc_new w _)
  have r1' : ((w.alloc (.cells (rC win (l0.length % 16) (rof l0)) 46)).alloc (.cells #[Value.int IntKind.u8 0, Value.int IntKind.u8 0, Value.int IntKind.u8 0, Value.int IntKind.u8 0, Value.int IntKind.u8 0, Value.int IntKind.u8 0, Value.int IntKind.u8 0, Value.int IntKind.u8 0, Value.int IntKind.u8 0, Value.int IntKind.u8 0, Value.int IntKind.u8 0, Value.int IntKind.u8 0, Value.int IntKind.u8 0, Value.int IntKind.u8 0, Value.int IntKind.u8 0, Value.int IntKind.u8 0, Value.int IntKind.i64 0, Value.int IntKind.u32 0] 46)).heap[w.heap.size + 1]? = some (.cells #[Value.int IntKind.u8 0, Value.int IntKind.u8 0, Value.int IntKind.u8 0, Value.int IntKind.u8 0, Value.int IntKind.u8 0, Value.int IntKind.u8 0, Value.int IntKind.u8 0, Value.int IntKind.u8 0, Value.int IntKind.u8 0, Value.int IntKind.u8 0, Value.int IntKind.u8 0, Value.int IntKind.u8 0, Value.int IntKind.u8 0, Value.int IntKind.u8 0, Value.int IntKind.u8 0, Value.int IntKind.u8 0, Value.int IntKind.i64 0, Value.int IntKind.u32 0] 46 (0, 0)) := by
    have := heap_alloc_new (w.alloc (.cells (rC win (l0.length % 16) (rof l0)) 46)) (.cells #[Value.int IntKind.u8 0, Value.int IntKind.u8 0, Value.int IntKind.u8 0, Value.int IntKind.u8 0, Value.int IntKind.u8 0, Value.int IntKind.u8 0, Value.int IntKind.u8 0, Value.int IntKind.u8 0, Value.int IntKind.u8 0, Value.int IntKind.u8 0, Value.int IntKind.u8 0, Value.int IntKind.u8 0, Value.int IntKind.u8 0, Value.int IntKind.u8 0, Value.int IntKind.u8 0, Value.int IntKind.u8 0, Value.int IntKind.i64 0, Value.int IntKind.u32 0] 46)
    rw [World.size_alloc] at this
    exact this
  have b0' : Below w.heap.size w ((w.alloc (.cells (rC win (l0.length % 16) (rof l0)) 46)).alloc (.cells #[Value.int IntKind.u8 0, Value.int IntKind.u8 0, Value.int IntKind.u8 0, Value.int IntKind.u8 0, Value.int IntKind.u8 0, Value.int IntKind.u8 0, Value.int IntKind.u8 0, Value.int IntKind.u8 0, Value.int IntKind.u8 0, Value.int IntKind.u8 0, Value.int IntKind.u8 0, Value.int IntKind.u8 0, Value.int IntKind.u8 0, Value.int IntKind.u8 0, Value.int IntKind.u8 0, Value.int IntKind.u8 0, Value.int IntKind.i64 0, Value.int IntKind.u32 0] 46)) := ((Below.refl _ _).alloc (Nat.le_refl _) _).alloc (by simp) _
  have R1 := Lib.hid r0'
  have T1 := Lib.hid r1'
  have B1 := Lib.hid b0'
  clear r0' r1' b0' i46' hW hl0
  have hlen : s.size = (strN s).length := (strN_length s).symm
  have HLEN := Lib.hid hlen
  clear hlen
  have N64 : (s.size : Int) ≤ 9223372036854775807 := by omega
  go_enter Try.func23, Try.ntmps23
  go_wp2_with fail
  generalize (w.alloc (.cells (rC win (l0.length % 16) (rof l0)) 46)).alloc (.cells #[Value.int IntKind.u8 0, Value.int IntKind.u8 0, Value.int IntKind.u8 0, Value.int IntKind.u8 0, Value.int IntKind.u8 0, Value.int IntKind.u8 0, Value.int IntKind.u8 0, Value.int IntKind.u8 0, Value.int IntKind.u8 0, Value.int IntKind.u8 0, Value.int IntKind.u8 0, Value.int IntKind.u8 0, Value.int IntKind.u8 0, Value.int IntKind.u8 0, Value.int IntKind.u8 0, Value.int IntKind.u8 0, Value.int IntKind.i64 0, Value.int IntKind.u32 0] 46) = w1 at *
  obtain ⟨Z, hZ⟩ : ∃ Z : Array Value, Z = #[Value.int IntKind.u8 0, Value.int IntKind.u8 0, Value.int IntKind.u8 0, Value.int IntKind.u8 0, Value.int IntKind.u8 0, Value.int IntKind.u8 0, Value.int IntKind.u8 0, Value.int IntKind.u8 0, Value.int IntKind.u8 0, Value.int IntKind.u8 0, Value.int IntKind.u8 0, Value.int IntKind.u8 0, Value.int IntKind.u8 0, Value.int IntKind.u8 0, Value.int IntKind.u8 0, Value.int IntKind.u8 0, Value.int IntKind.i64 0, Value.int IntKind.u32 0] := ⟨_, rfl⟩
  have HZ : Hid (Z.size = 18) := by rw [hZ]; rfl
  rw [← hZ] at T1
  clear hZ
  go_loopw [10] (fun i wr => ∃ (k : Nat) (win' : List Nat), k ≤ s.size ∧ Win (l0 ++ (strN s).take k) win' ∧ wr.heap[w.heap.size]? = some (.cells (rC win' ((l0 ++ (strN s).take k).length % 16) (rof (l0 ++ (strN s).take k))) 46 (0, 0)) ∧ wr.heap[w.heap.size + 1]? = some (.cells Z 46 (0, 0)) ∧ Below w.heap.size w wr ∧ i = .int .i64 k) (fun i _ => s.size - (intOf i).toNat)
  case atStart => exact ⟨0, win, Nat.zero_le _, by simpa using HWin.out, by simpa using R1.out, T1.out, B1.out, rfl⟩
  case round =>
    obtain ⟨k, wn, hk, hwn, h0, h1, hb, rfl⟩ := hrel
    clear R1 T1 B1
    have HWN := Lib.hid hwn
    have R := Lib.hid h0
    have T := Lib.hid h1
    have BW := Lib.hid hb
    clear h0 h1 hb
    have hl : Hid (∀ c ∈ l0 ++ (strN s).take k, c < 256) := fun c hc => by
      rcases List.mem_append.1 hc with h | h
      · exact HL0.out c h
      · exact strN_lt s c (List.mem_of_mem_take h)
    by_cases hlt : k < s.size
    · have hst : (strN s).take (k + 1) = (strN s).take k ++ [(s[k]'hlt).toNat] := by rw [byte_at s k hlt]; exact take_getD_succ _ k (by rw [← HLEN.out]; exact hlt)
      have hb256 : (s[k]'hlt).toNat < 256 := UInt8.toNat_lt _
      have hsum := rof_bound _ hl.out
      have hpush := rof_push (l0 ++ (strN s).take k) (s[k]'hlt).toNat
      rw [← hwn.old] at hpush
      have hwn2 := hwn.push (s[k]'hlt).toNat hb256
      have hat : (l0 ++ (strN s).take k).length % 16 < 16 := Nat.mod_lt _ (by decide)
      have hat2 : ((l0 ++ (strN s).take k).length % 16 + 1) % 16 = (l0 ++ (strN s).take (k + 1)).length % 16 := by
        rw [hst, ← List.append_assoc, List.length_append (bs := [_]), List.length_singleton]; omega
      have HP := Lib.hid fun wx => push_any wn ((l0 ++ (strN s).take k).length % 16) (rof (l0 ++ (strN s).take k)) (s[k]'hlt).toNat wx hwn.1 hwn.2.1 hat hsum hb256
      rw [List.append_assoc, ← hst] at hpush hwn2
      rw [← hpush, hat2] at HP
      have HWN2 := Lib.hid hwn2
      have s1 : Hid ((rC wn ((l0 ++ (strN s).take k).length % 16) (rof (l0 ++ (strN s).take k))).size = 18) := rC_size _ _ _ hwn.1
      have s2 : Hid ((rC (wn.set ((l0 ++ (strN s).take k).length % 16) (s[k]'hlt).toNat) ((l0 ++ (strN s).take (k + 1)).length % 16) (rof (l0 ++ (strN s).take (k + 1)))).size = 18) := rC_size _ _ _ hwn2.1
      have o2 : Hid ((rC (wn.set ((l0 ++ (strN s).take k).length % 16) (s[k]'hlt).toNat) ((l0 ++ (strN s).take (k + 1)).length % 16) (rof (l0 ++ (strN s).take (k + 1)))).all (·.oneCell') = true) := rC_one _ _ _
      clear hst hsum hpush hwn2 hat hat2 hwn
      generalize wn.set ((l0 ++ (strN s).take k).length % 16) (s[k]'hlt).toNat = wn2 at *
      obtain ⟨C2, hC2⟩ : ∃ C2, C2 = rC wn2 ((l0 ++ (strN s).take (k + 1)).length % 16) (rof (l0 ++ (strN s).take (k + 1))) := ⟨_, rfl⟩
      obtain ⟨C1, hC1⟩ : ∃ C1, C1 = rC wn ((l0 ++ (strN s).take k).length % 16) (rof (l0 ++ (strN s).take k)) := ⟨_, rfl⟩
      rw [← hC2] at HP s2 o2
      rw [← hC1] at HP s1 R
      have HC2 := Lib.hid hC2
      clear hC1 hC2 hl
      have kk : (k : Int) < (s.size : Int) := by omega
      have k0 : (0 : Int) ≤ (k : Int) := Int.natCast_nonneg _
      have ic1 : (Try.prog.info? 46).map (·.size) = some C1.toList.length := by rw [Array.length_toList, s1.out]; exact i46.out
      have ic2 : (Try.prog.info? 46).map (·.size) = some C2.size := by rw [s2.out]; exact i46.out
      have hu := Try.underlying46
      go_wp2_with fail
      refine wp_region_noPanic ?_
      refine wp_region_held_drew (S := fun _ => True) (by kernel_rfl) trivial (fun _ => ?_)
      have Rv : Hid (wr.drew.heap[w.heap.size]? = some (.cells C1 46 (0, 0))) := R.out
      have Tv : Hid (wr.drew.heap[w.heap.size + 1]? = some (.cells Z 46 (0, 0))) := T.out
      have Bv : Hid (Below w.heap.size w wr.drew) := BW.out.drew
      clear R T BW
      generalize wr.drew = v0 at *
      refine take_val 1 (.string s) rfl (by kernel_rfl) (by kernel_rfl) (by kernel_rfl) (fun _ _ _ _ h => h) (by rfl) rfl (fun w _ => by go_simp) trivial ?_
      try simp only [List.set_cons_zero, List.set_cons_succ]
      refine take_val 2 (.int .i64 (k : Int)) rfl (by kernel_rfl) (by kernel_rfl) (by kernel_rfl) (fun _ _ _ _ h => h) (by rfl) rfl (fun w _ => by go_simp) trivial ?_
      try simp only [List.set_cons_zero, List.set_cons_succ]
      refine take_val 3 (.int .u8 (((s[k]'hlt).toNat : Nat) : Int)) rfl (by kernel_rfl) (by kernel_rfl) (by kernel_rfl) (fun _ _ _ _ h => h) (by rfl) rfl (fun w _ => by go_simp) trivial ?_
      try simp only [List.set_cons_zero, List.set_cons_succ]
      refine one_ready 0 (by kernel_rfl) rfl (by rfl) (fun K hK => ?_)
      refine wp_load_mid _ _ rfl w.heap.size 0 rfl C1.toList _ (range_of_row Rv.out) hu rfl ic1 ?_
      rw [put_eq rfl]
      try simp only [List.set_cons_zero, List.set_cons_succ, Array.toArray_toList]
      refine hK.out _ _ trivial ?_
      clear hK K
      refine one_ready 4 (by kernel_rfl) rfl (by rfl) (fun K hK => ?_)
      go_simp
      refine (HP.out _).mono ?_
      rintro e v1 ⟨rfl, hb1⟩
      go_wp2_with fail
      refine hK.out _ _ trivial ?_
      clear hK K
      try simp only [Act.put, List.setIfInBounds_toArray, List.set_cons_zero, List.set_cons_succ]
      have R1 := (hb1.block _ (lt_of_block Rv.out)).trans Rv.out
      have T1 := (hb1.block _ (lt_of_block Tv.out)).trans Tv.out
      have B1 := Below.step Bv.out hb1
      have hth : Hid (v1.there w.heap.size 0 C2.size) := by have := row_there R1; rw [s1.out] at this; rw [s2.out]; exact this
      have R2 : Hid ((v1.setCells w.heap.size 0 C2.toList).heap[w.heap.size]? = some (.cells C2 46 (0, 0))) := setCells_full R1 _ (by rw [s1.out, s2.out])
      have T2 : Hid ((v1.setCells w.heap.size 0 C2.toList).heap[w.heap.size + 1]? = some (.cells Z 46 (0, 0))) := (heap_setCells_other _ _ (Nat.succ_ne_self _) _ _ _).trans T1
      have B2 : Hid (Below w.heap.size w (v1.setCells w.heap.size 0 C2.toList)) := below_setCells (Nat.le_refl _) _ _ B1
      clear Rv Tv Bv R1 T1 B1 hb1 HP
      refine take_val 5 (.tuple #[.agg C2, .int .i64 0]) rfl (by kernel_rfl) (by kernel_rfl) (by kernel_rfl) (fun _ _ _ _ h => h) (by rfl) rfl (fun w _ => by go_simp) trivial ?_
      try simp only [List.set_cons_zero, List.set_cons_succ]
      refine take_val 6 (.agg C2) rfl (by kernel_rfl) (by kernel_rfl) (by kernel_rfl) (fun _ _ _ _ h => h) (by rfl) rfl (fun w _ => by go_simp) trivial ?_
      try simp only [List.set_cons_zero, List.set_cons_succ]
      refine take_val 7 (.int .i64 0) rfl (by kernel_rfl) (by kernel_rfl) (by kernel_rfl) (fun _ _ _ _ h => h) (by rfl) rfl (fun w _ => by go_simp) trivial ?_
      try simp only [List.set_cons_zero, List.set_cons_succ]
      refine one_ready 8 (by kernel_rfl) rfl (by rfl) (fun K hK => ?_)
      refine wp_store_mid _ _ _ rfl w.heap.size 0 C2 rfl rfl hth.out ic2 o2.out ?_
      refine hK.out _ _ trivial ?_
      clear hK K
      try simp only [Act.put]
      clear hth
      generalize v1.setCells w.heap.size 0 C2.toList = v2 at *
      refine take_val 9 (.int .i64 0) rfl (by kernel_rfl) (by kernel_rfl) (by kernel_rfl) (fun _ _ _ _ h => h) (by rfl) rfl (fun w _ => by go_simp) trivial ?_
      try simp only [List.set_cons_zero, List.set_cons_succ]
      refine wpAnyH_done (by kernel_rfl) ?_ _
      refine NoPanic.normal ?_
      go_wp2_with fail
      go_roundw
      case rel => exact ⟨k + 1, wn2, by omega, HWN2.out, by rw [← HC2.out]; exact R2.out, T2.out, B2.out, by go_num⟩
      case measure => simp [intOf]; omega
    · obtain rfl : k = s.size := by omega
      have ht : (strN s).take s.size = strN s := List.take_of_length_le (by rw [← HLEN.out]; exact Nat.le_refl _)
      rw [ht] at R HWN
      clear ht hwn hl hlt hk
      have sc : Hid ((rC wn ((l0 ++ strN s).length % 16) (rof (l0 ++ strN s))).size = 18) := rC_size _ _ _ HWN.out.1
      have so : Hid ((rC wn ((l0 ++ strN s).length % 16) (rof (l0 ++ strN s))).all (·.oneCell') = true) := rC_one _ _ _
      obtain ⟨C, hC⟩ : ∃ C, C = rC wn ((l0 ++ strN s).length % 16) (rof (l0 ++ strN s)) := ⟨_, rfl⟩
      rw [← hC] at R sc so
      have HC := Lib.hid hC
      clear hC
      have hth : Hid (wr.there (w.heap.size + 1) 0 C.size) := by have := row_there T.out; rw [HZ.out] at this; rw [sc.out]; exact this
      have ic : Hid ((Try.prog.info? 46).map (·.size) = some C.size) := by rw [sc.out]; exact i46.out
      go_wp2_with (first
        | (with_reducible refine wpList_load_row rfl 46 (.tmp 2) rfl w.heap.size rfl 46 C (0, 0) _ R.out Try.underlying46 rfl ?_ ?_; exact ic.out)
        | (with_reducible refine wpList_store_mid rfl 46 (.tmp 4) (.tmp 25) rfl (w.heap.size + 1) 0 C rfl rfl hth.out ic.out so.out ?_))
      exact bodyPost_ret (results_row_tmp rfl _ _ (w.heap.size + 1) 46 C (0, 0) _ rfl (setCells_full T.out _ (by rw [sc.out, HZ.out])) Try.underlying46 rfl ic.out) rfl ⟨⟨wn, HWN.out, by rw [HC.out]; rfl⟩, below_setCells (Nat.le_succ _) _ _ BW.out⟩
end Go.Proofs.Ytcocdlhjfbpkfaa
