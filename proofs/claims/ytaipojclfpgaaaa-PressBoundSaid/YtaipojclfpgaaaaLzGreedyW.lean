/- The walk of lz.Greedy. -/
import Derived.Test.YtaipojclfpgaaaaLzLongest
import Derived.Test.YtaipojclfpgaaaaLzRead
namespace Go.Proofs.Ytaipojclfpgaaaa
open Go.RowKit Plain
theorem greedy_large (s : ByteArray) (w : World) (hs : 4096 < s.size) :
    Calls Try.prog 27 #[.string s] w fun e w' => e = .returned (.tuple #[.slice none 0 0, .int .i64 2]) ∧ Below w.heap.size w w' := by
  have n1 : (4096 : Int) < (s.size : Int) := by omega
  go_enter Try.func27, Try.ntmps27
  go_wp2
  go_ret2
  exact ⟨rfl, Below.refl _ _⟩
/-- what Greedy leaves -/
def GrEnd (w0 : World) (s : List Nat) (e : Ending) (w : World) : Prop :=
  ∃ (a : Option Addr) (l : List Tok) (c : Nat), e = .returned (.tuple #[.slice a l.length c, .int .i64 0]) ∧ w.ownsRow w0.heap.size 60 3 (.slice a l.length c) l.length (l.flatMap tC) ∧ Gr s s.length l ∧ Below w0.heap.size w0 w
set_option maxRecDepth 100000 in
set_option maxHeartbeats 2000000 in
theorem greedy_any (s : ByteArray) (w : World) (hs : s.size ≤ 4096) : Calls Try.prog 27 #[.string s] w (GrEnd w (strN s)) := by
  obtain ⟨i0, hi0, hz0, hz1, hz2⟩ := info_parts info_tok
  have n1 : (s.size : Int) ≤ 4096 := by omega
  go_enter Try.func27, Try.ntmps27
  go_wp2_with fail
  go_loopw [4, 5] (fun ov av wr => ∃ (at_ : Nat) (l : List Tok) (oa : Option Addr) (oc : Nat), av = .int .i64 (at_ : Int) ∧ ov = .slice oa l.length oc ∧ at_ ≤ s.size ∧ Gr (strN s) at_ l ∧ wr.ownsRow w.heap.size 60 3 (.slice oa l.length oc) l.length (l.flatMap tC) ∧ Below w.heap.size w wr) (fun _ av _ => s.size - (intOf av).toNat)
  case atStart => exact ⟨0, [], none, 0, rfl, rfl, by omega, Gr.nil, World.ownsRow_nil _ _ _ _, Below.refl _ _⟩
  case round =>
    obtain ⟨at_, l, oa, oc, rfl, rfl, hat, hgr, hown, hbr⟩ := hrel
    have HGR := Lib.hid hgr
    have HOWN := Lib.hid hown
    have HBR := Lib.hid hbr
    have hll : l.length ≤ 4096 := by have := hgr.le.2; omega
    clear hgr hown hbr
    by_cases hlt : at_ < s.size
    · have m1 : (at_ : Int) < (s.size : Int) := by omega
      have HLG := Lib.hid fun wx => longest_any s at_ wx hlt hs
      go_wp2_with fail
      refine (HLG.out _).mono ?_
      rintro e w1 ⟨L, d, rfl, hbest, hb1⟩
      have HBEST := Lib.hid hbest
      have hd0 := hbest.2.2.2.1
      have hL := hbest.1
      have hLs := hbest.2.1
      rw [strN_length] at hLs
      have HO1 := Lib.hid (own_below HOWN.out hb1)
      have HB1 := Lib.hid (Below.step HBR.out hb1)
      have hw1 : w.heap.size ≤ w1.heap.size := HB1.out.size
      clear hbest hb1
      by_cases h0 : L = 0
      · have hd := hd0 h0
        subst h0
        subst hd
        have HG2 := Lib.hid (Gr.step HGR.out (by rw [strN_length]; exact hlt) HBEST.out)
        have hby := byte_get s at_ hlt
        simp only [if_true] at HG2
        rw [← hby] at HG2
        have HNW := Lib.hid HG2.out
        clear HG2 hby hd0
        have D1 := Lib.hid (cells_new_at (w1.alloc (.cells #[.int .u8 (((s[at_]'hlt).toNat : Nat) : Int), .int .i64 0, .int .i64 0] 60)) (w1.heap.size + 1) (by simp) #[.int .u8 (((s[at_]'hlt).toNat : Nat) : Int), .int .i64 0, .int .i64 0] 60 (tC ((s[at_]'hlt).toNat, ((0 : Nat) : Int), ((0 : Nat) : Int))) rfl)
        have D2 : Hid (∀ u ∈ tC ((s[at_]'hlt).toNat, ((0 : Nat) : Int), ((0 : Nat) : Int)), u.oneCell' = true) := fun u hu => tC_one _ u hu
        have D3 : Hid (l.length + 1 ≤ maxLen) := by show _ ≤ _; unfold maxLen; omega
        have D4 : Hid ((l.length + 1) * 24 ≤ 140737488355328) := by show _ ≤ _; omega
        have D5 : Hid (w.heap.size ≤ ((w1.alloc (.cells #[.int .u8 (((s[at_]'hlt).toNat : Nat) : Int), .int .i64 0, .int .i64 0] 60)).alloc (.cells #[.int .u8 (((s[at_]'hlt).toNat : Nat) : Int), .int .i64 0, .int .i64 0] 60)).heap.size) := by show _ ≤ _; simp; omega
        go_wp2_with (at_builtin; refine wpList_append_own _ rfl _ _ 55 rfl w.heap.size 60 i0 (.agg #[.int .u8 0, .int .i64 0, .int .i64 0]) 3 24 Try.underlying55 hi0 hz0 hz1 hz2 rfl (by decide) _ _ _ rfl ((HO1.out.alloc _).alloc _) ⟨w1.heap.size + 1, 0, none⟩ 1 1 (tC ((s[at_]'hlt).toNat, ((0 : Nat) : Int), ((0 : Nat) : Int))) rfl rfl D1.out D2.out D3.out D4.out D5.out ?_)
        intro v' w2 hown' hgrow _
        have BW := Lib.hid (below_own ((HB1.out.alloc hw1 _).alloc (by simp; omega) _) hgrow (by simp; omega) ((HO1.out.alloc _).alloc _) (Nat.le_refl _))
        obtain ⟨oa2, oc2, rfl⟩ := own_form hown'
        have OW : Hid (w2.ownsRow w.heap.size 60 3 (.slice oa2 (l ++ [((s[at_]'hlt).toNat, ((0 : Nat) : Int), ((0 : Nat) : Int))]).length oc2) (l ++ [((s[at_]'hlt).toNat, ((0 : Nat) : Int), ((0 : Nat) : Int))]).length ((l ++ [((s[at_]'hlt).toNat, ((0 : Nat) : Int), ((0 : Nat) : Int))]).flatMap tC)) := by
          show w2.ownsRow _ _ _ _ _ _
          rw [List.length_append, tCs_snoc]
          exact hown'
        have HROW := (hgrow.block w1.heap.size (by simp; omega) (fun e => by have := HO1.out.lt _ e.symm; omega)).trans ((Below.heap_alloc _ _ _ (by simp)).trans (heap_alloc_new w1 (.cells #[.int .u8 (((s[at_]'hlt).toNat : Nat) : Int), .int .i64 0, .int .i64 0] 60)))
        have r0 := cell_of_row w2 w1.heap.size 0 _ _ _ HROW
        have r1 := cell_of_row w2 w1.heap.size 1 _ _ _ HROW
        have r2 := cell_of_row w2 w1.heap.size 2 _ _ _ HROW
        simp only [List.getElem?_toArray, List.getElem?_cons_zero, List.getElem?_cons_succ] at r0 r1 r2
        clear hown' hgrow HROW
        go_wp2_with fail
        go_roundw
        case rel => exact ⟨at_ + 1, l ++ [((s[at_]'hlt).toNat, ((0 : Nat) : Int), ((0 : Nat) : Int))], oa2, oc2, by go_num, by rw [List.length_append]; rfl, by omega, by have h := HNW.out; rwa [show at_ + max 0 1 = at_ + 1 by omega] at h, OW.out, BW.out⟩
        case measure => simp [intOf]; omega
      · have f0 : ((L : Int) == 0) = false := beq_eq_false_iff_ne.2 (by omega)
        have HG2 := Lib.hid (Gr.step HGR.out (by rw [strN_length]; exact hlt) HBEST.out)
        rw [if_neg h0] at HG2
        have HNW := Lib.hid HG2.out
        have hmx : max (L : Int) 1 = (L : Int) := by omega
        clear HG2 hd0
        have D1 := Lib.hid (cells_new_at (w1.alloc (.cells #[.int .u8 0, .int .i64 (L : Int), .int .i64 (d : Int)] 60)) (w1.heap.size + 1) (by simp) #[.int .u8 0, .int .i64 (L : Int), .int .i64 (d : Int)] 60 (tC (0, (L : Int), (d : Int))) rfl)
        have D2 : Hid (∀ u ∈ tC (0, (L : Int), (d : Int)), u.oneCell' = true) := fun u hu => tC_one _ u hu
        have D3 : Hid (l.length + 1 ≤ maxLen) := by show _ ≤ _; unfold maxLen; omega
        have D4 : Hid ((l.length + 1) * 24 ≤ 140737488355328) := by show _ ≤ _; omega
        have D5 : Hid (w.heap.size ≤ ((w1.alloc (.cells #[.int .u8 0, .int .i64 (L : Int), .int .i64 (d : Int)] 60)).alloc (.cells #[.int .u8 0, .int .i64 (L : Int), .int .i64 (d : Int)] 60)).heap.size) := by show _ ≤ _; simp; omega
        go_wp2_with (at_builtin; refine wpList_append_own _ rfl _ _ 55 rfl w.heap.size 60 i0 (.agg #[.int .u8 0, .int .i64 0, .int .i64 0]) 3 24 Try.underlying55 hi0 hz0 hz1 hz2 rfl (by decide) _ _ _ rfl ((HO1.out.alloc _).alloc _) ⟨w1.heap.size + 1, 0, none⟩ 1 1 (tC (0, (L : Int), (d : Int))) rfl rfl D1.out D2.out D3.out D4.out D5.out ?_)
        intro v' w2 hown' hgrow _
        have BW := Lib.hid (below_own ((HB1.out.alloc hw1 _).alloc (by simp; omega) _) hgrow (by simp; omega) ((HO1.out.alloc _).alloc _) (Nat.le_refl _))
        obtain ⟨oa2, oc2, rfl⟩ := own_form hown'
        have OW : Hid (w2.ownsRow w.heap.size 60 3 (.slice oa2 (l ++ [(0, (L : Int), (d : Int))]).length oc2) (l ++ [(0, (L : Int), (d : Int))]).length ((l ++ [(0, (L : Int), (d : Int))]).flatMap tC)) := by
          show w2.ownsRow _ _ _ _ _ _
          rw [List.length_append, tCs_snoc]
          exact hown'
        have HROW := (hgrow.block w1.heap.size (by simp; omega) (fun e => by have := HO1.out.lt _ e.symm; omega)).trans ((Below.heap_alloc _ _ _ (by simp)).trans (heap_alloc_new w1 (.cells #[.int .u8 0, .int .i64 (L : Int), .int .i64 (d : Int)] 60)))
        have r0 := cell_of_row w2 w1.heap.size 0 _ _ _ HROW
        have r1 := cell_of_row w2 w1.heap.size 1 _ _ _ HROW
        have r2 := cell_of_row w2 w1.heap.size 2 _ _ _ HROW
        simp only [List.getElem?_toArray, List.getElem?_cons_zero, List.getElem?_cons_succ] at r0 r1 r2
        clear hown' hgrow HROW
        go_wp2_with fail
        go_roundw
        case rel => exact ⟨at_ + L, l ++ [(0, (L : Int), (d : Int))], oa2, oc2, by go_num, by rw [List.length_append]; rfl, by omega, by have h := HNW.out; rwa [show at_ + max L 1 = at_ + L by omega] at h, OW.out, BW.out⟩
        case measure => simp [intOf]; omega
    · have m1 : ¬ (at_ : Int) < (s.size : Int) := by omega
      obtain rfl : at_ = (strN s).length := by rw [strN_length]; omega
      go_wp2_with fail
      go_ret2
      exact ⟨_, _, _, rfl, HOWN.out, HGR.out, HBR.out⟩
end Go.Proofs.Ytaipojclfpgaaaa
