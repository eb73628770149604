/- The walk of sweep.Do. -/
import Derived.Test.YtgoocmocdimnoaaSweepCopy
import Derived.Test.YtgoocmocdimnoaaStoreNew
import Derived.Test.YtgoocmocdimnoaaResults
namespace Go.Proofs.Ytgoocmocdimnoaa
open Go.RowKit Plain
set_option linter.unusedVariables false
theorem there_rowS {w : World} {b : Nat} {t : TypeId} {cs : Array Value} (h : w.heap[b]? = some (.cells cs t (0, 0))) : w.there b 0 cs.size := fun j hj => by
  rw [Nat.zero_add]
  refine ⟨?_, frozen_of_row _ _ _ _ _ h⟩
  rw [cell_of_row _ _ _ _ _ _ h, Array.getElem?_eq_getElem hj]
  rfl
theorem OH.same {base H : Nat} {ta : Option Addr} {tc : Nat} {rows : List TRow} {ra : Option Addr} {rc : Nat} {rs : List Int} {bz : Bool} {w w' : World} (h : OH base H ta tc rows ra rc rs bz w) (ho : ∀ k, base ≤ k → w'.heap[k]? = w.heap[k]?) : OH base H ta tc rows ra rc rs bz w' := by
  have hs : ∀ {e : TypeId} {k : Nat} {v : Value} {n : Nat} {xs : List Value}, w.ownsRow base e k v n xs → w'.ownsRow base e k v n xs := fun {e k v n xs} hr => own_same hr fun g cs hg _ => ho g (hr.lt g hg).1
  exact ⟨h.1, (ho H h.1).trans h.2.1, hs h.2.2.1, hs h.2.2.2.1, fun r hr => hs (h.2.2.2.2 r hr)⟩
/-- what Do leaves -/
def DoEnd (res : Option Hp) (w0 : World) (e : Ending) (w : World) : Prop := Below w0.heap.size w0 w ∧ match res with
  | none => ∃ c : Nat, (c ≠ 0 ∧ c ≤ 20) ∧ e = .returned (.tuple #[.agg #[.slice none 0 0, .slice none 0 0, .bool false], .int .i64 (c : Int)])
  | some g => ∃ H ta tc rows ra rc rs bz, OH w0.heap.size H ta tc rows ra rc rs bz w ∧ g = (tK rows, rs, bz) ∧ e = .returned (.tuple #[.agg #[.slice ta rows.length tc, .slice ra rs.length rc, .bool bz], .int .i64 0])
set_option maxRecDepth 100000 in
set_option maxHeartbeats 4000000 in
theorem do_any (a : Option Addr) (tc : Nat) (rows : List TRow) (b : Option Addr) (rc : Nat) (rs : List Int) (bz : Bool) (k x y : Int) (w : World) (h : TAt w a rows) (hl : rows.length ≤ 9223372036854775807) (hk : SAt 1 iC w b rs) (hkl : rs.length ≤ 9223372036854775807) :
    Calls Try.prog 20 #[.agg #[.slice a rows.length tc, .slice b rs.length rc, .bool bz], .agg #[.int .i64 k, .int .i64 x, .int .i64 y]] w (DoEnd (doF (tK rows, rs, bz) (k, x, y)) w) := by
  have HI : Hid ((Try.prog.info? 41).map (·.size) = some (#[.slice none 0 0, .slice none 0 0, .bool false] : Array Value).size) := by show _ = _; kernel_rfl
  have HON : Hid ((#[.slice none 0 0, .slice none 0 0, .bool false] : Array Value).all (·.oneCell') = true) := by show _ = _; simp [Value.oneCell']
  have HB : Hid (Below w.heap.size w (((w.alloc (.cells #[.slice a rows.length tc, .slice b rs.length rc, .bool bz] 41)).alloc (.cells #[.int .i64 k, .int .i64 x, .int .i64 y] 43)).alloc (.cells #[.slice none 0 0, .slice none 0 0, .bool false] 41))) := (((Below.refl w.heap.size w).alloc (Nat.le_refl _) (.cells #[.slice a rows.length tc, .slice b rs.length rc, .bool bz] 41)).alloc (by simp) (.cells #[.int .i64 k, .int .i64 x, .int .i64 y] 43)).alloc (by simp; omega) (.cells #[.slice none 0 0, .slice none 0 0, .bool false] 41)
  have h3 := heap_three w (.cells #[.slice a rows.length tc, .slice b rs.length rc, .bool bz] 41) (.cells #[.int .i64 k, .int .i64 x, .int .i64 y] 43) (.cells #[.slice none 0 0, .slice none 0 0, .bool false] 41)
  have HBX := Lib.hid h3.1
  have HAX := Lib.hid h3.2
  have HCX : Hid ((((w.alloc (.cells #[.slice a rows.length tc, .slice b rs.length rc, .bool bz] 41)).alloc (.cells #[.int .i64 k, .int .i64 x, .int .i64 y] 43)).alloc (.cells #[.slice none 0 0, .slice none 0 0, .bool false] 41)).heap[(w.heap.size + 1 + 1)]? = some (.cells #[.slice none 0 0, .slice none 0 0, .bool false] 41 (0, 0))) := by
    have := heap_alloc_new ((w.alloc (.cells #[.slice a rows.length tc, .slice b rs.length rc, .bool bz] 41)).alloc (.cells #[.int .i64 k, .int .i64 x, .int .i64 y] 43)) (.cells #[.slice none 0 0, .slice none 0 0, .bool false] 41)
    rw [World.size_alloc, World.size_alloc] at this
    exact this
  have HSZ : Hid ((((w.alloc (.cells #[.slice a rows.length tc, .slice b rs.length rc, .bool bz] 41)).alloc (.cells #[.int .i64 k, .int .i64 x, .int .i64 y] 43)).alloc (.cells #[.slice none 0 0, .slice none 0 0, .bool false] 41)).heap.size = w.heap.size + 3) := by show _ = _; simp
  have HS := Lib.hid h
  have HK := Lib.hid hk
  have HCK := Lib.hid (hcheck_any a tc rows b rc rs bz (((w.alloc (.cells #[.slice a rows.length tc, .slice b rs.length rc, .bool bz] 41)).alloc (.cells #[.int .i64 k, .int .i64 x, .int .i64 y] 43)).alloc (.cells #[.slice none 0 0, .slice none 0 0, .bool false] 41)) (h.below HB.out) hl (hk.below HB.out) hkl)
  clear h hk h3
  go_enter Try.func20, Try.ntmps20
  go_wp2_with fail
  refine HCK.out.mono ?_
  rintro e w1 ⟨c, rfl, hc4, hc0, hb⟩
  have HB1 := Lib.hid (Below.step HB.out hb)
  have HBX1 := Lib.hid ((hb.block _ (lt_of_block HBX.out)).trans HBX.out)
  have HAX1 := Lib.hid ((hb.block _ (lt_of_block HAX.out)).trans HAX.out)
  have HCR := Lib.hid ((hb.block _ (lt_of_block HCX.out)).trans HCX.out)
  have HSZ1 : Hid (w.heap.size + 3 ≤ w1.heap.size) := by have := hb.size; rw [HSZ.out] at this; exact this
  have HC0 := Lib.hid hc0
  have b0 := cell_of_row w1 w.heap.size 0 _ _ _ HBX1.out
  have b1 := cell_of_row w1 w.heap.size 1 _ _ _ HBX1.out
  have b2 := cell_of_row w1 w.heap.size 2 _ _ _ HBX1.out
  simp only [List.getElem?_toArray, List.getElem?_cons_zero, List.getElem?_cons_succ] at b0 b1 b2
  clear hb hc0 HCK
  by_cases hc : c = 0
  · have HOK := Lib.hid (HC0.out.1 hc)
    subst hc
    have HDF : Hid (doF (tK rows, rs, bz) (k, x, y) = stepF (tK rows, rs, bz) (k, x, y)) := by show _ = _; unfold doF; rw [if_pos HOK.out]
    have HCP := Lib.hid (copy_any a tc rows b rc rs bz w1 (HS.out.below HB1.out) (HK.out.below HB1.out) HOK.out)
    go_wp2_with fail
    refine HCP.out.mono ?_
    rintro e w2 ⟨hb, H, ta, tc2, vows, ra, rc2, rfl, hoh, htk, hd, hp⟩
    have HB2 := Lib.hid (Below.step HB1.out hb)
    have HAX2 := Lib.hid ((hb.block _ (lt_of_block HAX1.out)).trans HAX1.out)
    have HCX2 := Lib.hid ((hb.block _ (lt_of_block HCR.out)).trans HCR.out)
    have HACT := Lib.hid (act_any w1.heap.size H ta tc2 vows ra rc2 rs bz k x y w2 hoh (by rw [htk]; exact HOK.out) hd hp)
    rw [htk] at HACT
    have a0 := cell_of_row w2 (w.heap.size + 1) 0 _ _ _ HAX2.out
    have a1 := cell_of_row w2 (w.heap.size + 1) 1 _ _ _ HAX2.out
    have a2 := cell_of_row w2 (w.heap.size + 1) 2 _ _ _ HAX2.out
    simp only [List.getElem?_toArray, List.getElem?_cons_zero, List.getElem?_cons_succ] at a0 a1 a2
    clear hb hoh htk hd hp HCP b0 b1 b2 HCR
    go_wp2_with fail
    refine HACT.out.mono ?_
    rintro e w3 hact
    have HB3 := Lib.hid (HB2.out.trans (hact.1.mono (by have := HSZ1.out; omega)))
    have HCR := Lib.hid ((hact.1.block (w.heap.size + 1 + 1) (by have := HSZ1.out; omega)).trans HCX2.out)
    have hres := hact.2
    clear hact
    cases hst : stepF (tK rows, rs, bz) (k, x, y) with
    | none =>
      have HST := Lib.hid hst
      rw [hst] at hres
      obtain ⟨c, hc0, hc20, rfl⟩ := hres
      have f1 : ((c : Int) != 0) = true := by simp; omega
      have HCN := Lib.hid hc0
      clear hc0 hst
      have HTH : Hid (World.there w3 (w.heap.size + 1 + 1) 0 (#[.slice none 0 0, .slice none 0 0, .bool false] : Array Value).size) := there_rowS HCR.out
      go_wp2_with (with_reducible refine wpList_store_mid rfl 41 (.tmp 4) (.tmp 22) rfl (w.heap.size + 1 + 1) 0 #[.slice none 0 0, .slice none 0 0, .bool false] rfl rfl HTH.out HI.out HON.out ?_)
      refine bodyPost_ret (results_row_tmp1 (p := 4) (q := 5) (ty := 41) rfl _ _ (w.heap.size + 1 + 1) 41 #[.slice none 0 0, .slice none 0 0, .bool false] (0, 0) _ rfl (setCells_full HCR.out #[.slice none 0 0, .slice none 0 0, .bool false] rfl) Try.underlying41 rfl HI.out) rfl ?_
      refine ⟨below_setCells (by omega) _ _ HB3.out, ?_⟩
      rw [HDF.out, HST.out]
      exact ⟨_, ⟨HCN.out, hc20⟩, rfl⟩
    | some g =>
      have HST := Lib.hid hst
      rw [hst] at hres
      obtain ⟨rfl, ta', tc', rows', ra', rc', rs', bz', hoh, hg⟩ := hres
      have HOH := Lib.hid hoh
      have HG := Lib.hid hg
      have x0 := hoh.h0
      have x1 := hoh.h1
      have x2 := hoh.h2
      have HI3 : Hid ((Try.prog.info? 41).map (·.size) = some (#[.slice ta' rows'.length tc', .slice ra' rs'.length rc', .bool bz'] : Array Value).size) := by show _ = _; kernel_rfl
      have HON3 : Hid ((#[.slice ta' rows'.length tc', .slice ra' rs'.length rc', .bool bz'] : Array Value).all (·.oneCell') = true) := by show _ = _; simp [Value.oneCell']
      have HTH : Hid (World.there w3 (w.heap.size + 1 + 1) 0 (#[.slice ta' rows'.length tc', .slice ra' rs'.length rc', .bool bz'] : Array Value).size) := by
        have := there_rowS HCR.out
        exact this
      have HOF : Hid (OH w.heap.size H ta' tc' rows' ra' rc' rs' bz' (w3.setCells (w.heap.size + 1 + 1) 0 (#[.slice ta' rows'.length tc', .slice ra' rs'.length rc', .bool bz'] : Array Value).toList)) := by
        have h1 := hoh.same (w' := w3.setCells (w.heap.size + 1 + 1) 0 (#[.slice ta' rows'.length tc', .slice ra' rs'.length rc', .bool bz'] : Array Value).toList) (fun k hk => heap_setCells_other _ k (by have := HSZ1.out; omega) _ _ _)
        have hw : w.heap.size ≤ w1.heap.size := by have := HSZ1.out; omega
        exact ⟨Nat.le_trans hw h1.1, h1.2.1, own_weak h1.2.2.1 hw, own_weak h1.2.2.2.1 hw, fun r hr => own_weak (h1.2.2.2.2 r hr) hw⟩
      clear hoh hst
      go_wp2_with (with_reducible refine wpList_store_mid rfl 41 (.tmp 4) (.tmp 27) rfl (w.heap.size + 1 + 1) 0 #[.slice ta' rows'.length tc', .slice ra' rs'.length rc', .bool bz'] rfl rfl HTH.out HI3.out HON3.out ?_)
      refine bodyPost_ret (results_row_tmp1 (p := 4) (q := 5) (ty := 41) rfl _ _ (w.heap.size + 1 + 1) 41 #[.slice ta' rows'.length tc', .slice ra' rs'.length rc', .bool bz'] (0, 0) _ rfl (setCells_full HCR.out #[.slice ta' rows'.length tc', .slice ra' rs'.length rc', .bool bz'] rfl) Try.underlying41 rfl HI3.out) rfl ?_
      refine ⟨below_setCells (by omega) _ _ HB3.out, ?_⟩
      rw [HDF.out, HST.out]
      exact ⟨H, ta', tc', rows', ra', rc', rs', bz', HOF.out, HG.out, rfl⟩
  · have f1 : ((c : Int) != 0) = true := by simp; omega
    have HR : Hid (doF (tK rows, rs, bz) (k, x, y) = none) := by show _ = _; unfold doF; rw [if_neg (fun h => hc (HC0.out.2 h))]
    have HCN := Lib.hid hc
    clear hc
    have HTH : Hid (World.there w1 (w.heap.size + 1 + 1) 0 (#[.slice none 0 0, .slice none 0 0, .bool false] : Array Value).size) := there_rowS HCR.out
    go_wp2_with (with_reducible refine wpList_store_mid rfl 41 (.tmp 4) (.tmp 13) rfl (w.heap.size + 1 + 1) 0 #[.slice none 0 0, .slice none 0 0, .bool false] rfl rfl HTH.out HI.out HON.out ?_)
    refine bodyPost_ret (results_row_tmp1 (p := 4) (q := 5) (ty := 41) rfl _ _ (w.heap.size + 1 + 1) 41 #[.slice none 0 0, .slice none 0 0, .bool false] (0, 0) _ rfl (setCells_full HCR.out #[.slice none 0 0, .slice none 0 0, .bool false] rfl) Try.underlying41 rfl HI.out) rfl ?_
    refine ⟨below_setCells (by omega) _ _ HB1.out, ?_⟩
    rw [HR.out]
    exact ⟨_, ⟨HCN.out, by omega⟩, rfl⟩
end Go.Proofs.Ytgoocmocdimnoaa
