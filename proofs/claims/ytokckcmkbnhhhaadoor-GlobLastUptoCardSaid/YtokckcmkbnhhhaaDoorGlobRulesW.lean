/- The walks of GlobBeneath and GlobLast. Printed by gen_globrules.py. -/
import Derived.Test.YtokckcmkbnhhhaaDoorGlobSkips
import Derived.Test.YtokckcmkbnhhhaaDoorGlobLaw
import Derived.Lib.LazyBuf
namespace Go.Proofs.YtokckcmkbnhhhaaDoor
open Go.RowKit Plain
set_option linter.unusedVariables false
set_option linter.unusedSimpArgs false
theorem info_stG : ∃ i, Tryd.prog.info? 9 = some i ∧ i.zero = some (.string ⟨#[]⟩) ∧ i.size = 1 ∧ i.bytes = 16 := info_parts (by kernel_rfl)
def OwnGEnd (w0 : World) (l : List ByteArray) (e : Ending) (w : World) : Prop := Below w0.heap.size w0 w ∧ ∃ a c, e = .returned (.slice a l.length c) ∧ w.ownsRow w0.heap.size 9 1 (.slice a l.length c) l.length (l.flatMap sC)
theorem owns_emptyG (w : World) (base : Nat) (e : TypeId) (k : Nat) (h : base ≤ w.heap.size) : (w.alloc (.cells #[] e)).ownsRow base e k (.slice (some ⟨w.heap.size, 0, none⟩) 0 0) 0 [] :=
  ⟨by simp, .inr ⟨w.heap.size, 0, #[], rfl, h, heap_alloc_new w _, by omega, by unfold maxLen; omega, by simp, by simp⟩⟩
set_option maxRecDepth 100000 in
theorem cloneStrG_any (a : Option Addr) (cap : Nat) (l : List ByteArray) (w : World) (h : SAt 1 sC w a l) (hl : l.length * 16 ≤ 140737488355328) :
    Calls Tryd.prog 35 #[.slice a l.length cap] w (OwnGEnd w l) := by
  obtain ⟨i0, hi0, hz0, hz1, hz2⟩ := info_stG
  cases a with
  | none =>
    have hn : l = [] := by
      cases l with
      | nil => rfl
      | cons y l => obtain ⟨g, off, e, _⟩ := h 0 (by simp); cases e
    subst hn
    clear h hl
    have hq := fun u : World => run_eql_slice_nil (P := Tryd.prog) u 36 9 none 0 cap Tryd.underlying36
    go_enter Tryd.func35, Tryd.ntmps35
    go_wp2_with fail
    go_ret
    exact ⟨Below.refl _ _, none, 0, rfl, World.ownsRow_nil _ _ _ _⟩
  | some ad =>
    have HB1 := Lib.hid ((Below.refl w.heap.size w).alloc (Nat.le_refl _) (.cells #[] 9))
    have HS := Lib.hid (h.below HB1.out)
    have HOWN := Lib.hid (owns_emptyG w w.heap.size 9 1 (Nat.le_refl _))
    have D3 : Hid (0 + l.length ≤ maxLen) := by show _ ≤ _; unfold maxLen; omega
    have D4 : Hid ((0 + l.length) * 16 ≤ 140737488355328) := by show _ ≤ _; omega
    have D5 : Hid (w.heap.size ≤ (w.alloc (.cells #[] 9)).heap.size) := HB1.out.size
    clear h hl
    have hq := fun u : World => run_eql_slice_nil (P := Tryd.prog) u 36 9 (some ad) l.length cap Tryd.underlying36
    go_enter Tryd.func35, Tryd.ntmps35
    go_wp2_with (at_builtin; refine wpList_append_sat rfl _ _ 36 rfl w.heap.size 9 i0 (.string ⟨#[]⟩) 1 16 Tryd.underlying36 hi0 hz0 hz1 hz2 rfl (by decide) (.slice (some ⟨w.heap.size, 0, none⟩) 0 0) 0 [] rfl HOWN.out (some ad) cap l rfl HS.out sC_length sC_one D3.out D4.out D5.out ?_)
    intro v' w2 hown' hgrow
    have BW := Lib.hid (below_own HB1.out hgrow HB1.out.size HOWN.out (Nat.le_refl _))
    obtain ⟨oa3, oc3, rfl⟩ := own_formG hown'
    have OW := Lib.hid hown'
    clear hown' hgrow
    go_wp2_with fail
    go_ret
    exact ⟨BW.out, oa3, oc3, rfl, OW.out⟩
theorem sk_a : skipsP (tl [⟨#[47, 97]⟩]) (bT ⟨#[47, 97, 47, 98]⟩) = (true, 0) := by decide +kernel
theorem sk_b : skipsP (tl [⟨#[47, 42]⟩, ⟨#[33, 47, 98]⟩]) (bT ⟨#[47, 98]⟩) = (false, 0) := by decide +kernel
theorem sk_c : skipsP (tl [⟨#[47, 42]⟩, ⟨#[33, 47, 98]⟩]) (bT ⟨#[47, 99]⟩) = (true, 0) := by decide +kernel
theorem bT_append (a b : ByteArray) : bT (a ++ b) = bT a ++ bT b := by simp [bT]
set_option maxRecDepth 100000 in
set_option maxHeartbeats 4000000 in
theorem globBeneath_any (a : Option Addr) (cap : Nat) (l : List ByteArray) (p n : ByteArray) (m : Int) (w : World) (h : SAt 1 sC w a l) (hl : l.length ≤ 1048576) (hz : ∀ y ∈ l, y.size ≤ 1048576) (hp : p.size ≤ 1048576) (hn : n.size ≤ 1048576) (hm : MaxL m w) (hT : Tabs w) :
    Calls Tryd.prog 10 #[.slice a l.length cap, .string p, .string n] w fun e w' => e = .returned (.bool true) ∧ Below w.heap.size w w' := by
  have HA := Lib.hid ((Below.refl w.heap.size w).alloc (Nat.le_refl _) (.cells #[.string ⟨#[47, 97]⟩] 9))
  have HS1 : Hid (SAt 1 sC (w.alloc (.cells #[.string ⟨#[47, 97]⟩] 9)) (some ⟨w.heap.size, 0, none⟩) [⟨#[47, 97]⟩]) := Lib.hid (sat_strs (l := [⟨#[47, 97]⟩]) (heap_alloc_new w _))
  have HK1 := Lib.hid (gskips_any (some ⟨w.heap.size, 0, none⟩) 1 [⟨#[47, 97]⟩] ⟨#[47, 97, 47, 98]⟩ m _ HS1.out (by decide) (fun y hy => by rw [List.mem_singleton] at hy; subst hy; decide) (hm.below HA.out) (hT.below HA.out) (by decide))
  rw [sk_a] at HK1
  have HSK := Lib.hid fun (W : World) (q : ByteArray) (hb : Below w.heap.size w W) (hq : q.size < 4294967281) => gskips_any a cap l q m W (h.below hb) (by omega) (fun y hy => by have := hz y hy; omega) (hm.below hb) (hT.below hb) hq
  have h63 : p.size + (⟨#[47]⟩ : ByteArray).size ≤ 9223372036854775807 := by show p.size + 1 ≤ _; omega
  have h64 : (p ++ ⟨#[47]⟩).size + n.size ≤ 9223372036854775807 := by rw [ByteArray.size_append]; show p.size + 1 + n.size ≤ _; omega
  have HZ3 : Hid ((p ++ ⟨#[47]⟩ ++ n).size < 4294967281) := Lib.hid (by rw [ByteArray.size_append, ByteArray.size_append]; show p.size + 1 + n.size < _; omega)
  have HZP : Hid (p.size < 4294967281) := Lib.hid (by omega)
  have HB3 : Hid (bT (p ++ ⟨#[47]⟩ ++ n) = bT p ++ 47 :: bT n) := Lib.hid (by rw [bT_append, bT_append, List.append_assoc]; rfl)
  have HRT : Hid ((skipsP (tl l) (bT ⟨#[47]⟩)).1 = false) := Lib.hid (skips_root _)
  have HBD := Lib.hid (fun (x : Int) (hx : (skipsP (tl l) (bT p)).2 ≠ 0) => skips_bad hx)
  have HBN := Lib.hid (fun (h0 : (skipsP (tl l) (bT p)).2 = 0) (h1 : (skipsP (tl l) (bT p)).1 = true) => beneath (bT n) h0 h1)
  rw [← HB3.out] at HBN
  clear h hz hm hT HS1
  go_enter Tryd.func10, Tryd.ntmps10
  go_wp2_with fail
  refine HK1.out.mono ?_
  rintro e u1 ⟨rfl, hb⟩
  have HB1 := Lib.hid (Below.step HA.out hb)
  clear hb HK1 HA
  go_wp2_with fail
  refine (HSK.out u1 ⟨#[47]⟩ HB1.out (by decide)).mono ?_
  rintro e u2 ⟨rfl, hb⟩
  have HB2 := Lib.hid (Below.step HB1.out hb)
  clear hb HB1
  rw [HRT.out]
  generalize (skipsP (tl l) (bT ⟨#[47]⟩)).2 = c0 at *
  go_wp2_with fail
  refine (HSK.out u2 p HB2.out HZP.out).mono ?_
  rintro e u3 ⟨rfl, hb⟩
  have HBB := Lib.hid (Below.step HB2.out hb)
  clear hb HB2 HRT
  generalize skipsP (tl l) (bT p) = R at *
  obtain ⟨o, c⟩ := R
  by_cases hc : c = 0
  · subst hc
    cases o with
    | false =>
      go_wp2_with fail
      go_ret
      exact ⟨rfl, HBB.out⟩
    | true =>
      have HBM := Lib.hid (HBN.out rfl rfl)
      clear HBN HBD
      go_wp2_with fail
      generalize (p ++ ⟨#[47]⟩ ++ n) = q at *
      refine (HSK.out u3 q HBB.out HZ3.out).mono ?_
      rintro e u4 ⟨rfl, hb⟩
      have HB4 := Lib.hid (Below.step HBB.out hb)
      clear hb HSK
      generalize skipsP (tl l) (bT q) = R at *
      obtain ⟨o, c⟩ := R
      by_cases hc : c = 0
      · subst hc
        have ho : o = true := HBM.out rfl
        subst ho
        go_wp2_with fail
        go_ret
        exact ⟨rfl, HB4.out⟩
      · have f1 : (c != 0) = true := by simpa using hc
        clear hc
        go_wp2_with fail
        go_ret
        exact ⟨rfl, HB4.out⟩
  · have ho : o = false := HBD.out 0 hc
    subst ho
    have f1 : (c != 0) = true := by simpa using hc
    have f2 : (c == 0) = false := by simpa using hc
    clear hc HBD HBN
    go_wp2_with fail
    go_ret
    exact ⟨rfl, HBB.out⟩
theorem rule_not : parseP (ruleT [33, 47, 42, 42]) = ([(true, [(2, [], false), (2, [], false)])], 0) := by decide +kernel
theorem rule_all : parseP (ruleT [47, 42, 42]) = ([(true, [(2, [], false), (2, [], false)])], 0) := by decide +kernel
theorem tl_snoc (l : List ByteArray) (r : ByteArray) : tl (l ++ [r]) = tl l ++ [bT r] := by simp [tl]
def slash1 : ByteArray := ⟨#[47]⟩
theorem slash1_list : slash1.toList = [47] := by rw [Lib.toList_data]; rfl
set_option maxRecDepth 100000 in
set_option maxHeartbeats 8000000 in
theorem globLast_any (a : Option Addr) (cap : Nat) (l : List ByteArray) (p : ByteArray) (m : Int) (w : World) (h : SAt 1 sC w a l) (hl : l.length ≤ 1048576) (hz : ∀ y ∈ l, y.size ≤ 1048576) (hp : p.size ≤ 1048576) (hm : MaxL m w) (hT : Tabs w) :
    Calls Tryd.prog 11 #[.slice a l.length cap, .string p] w fun e w' => e = .returned (.bool true) ∧ Below w.heap.size w w' := by
  obtain ⟨i0, hi0, hz0, hz1, hz2⟩ := info_stG
  have HS := Lib.hid h
  have HLN := Lib.hid hl
  have HZ := Lib.hid hz
  have HM := Lib.hid hm
  have HT := Lib.hid hT
  have HPZ : Hid (p.size < 4294967281) := Lib.hid (by omega)
  have HA := Lib.hid fun (W : World) => (Below.refl W.heap.size W).alloc (Nat.le_refl _) (.cells #[.string ⟨#[47, 42]⟩, .string ⟨#[33, 47, 98]⟩] 9)
  have HS1 : Hid (∀ W : World, SAt 1 sC (W.alloc (.cells #[.string ⟨#[47, 42]⟩, .string ⟨#[33, 47, 98]⟩] 9)) (some ⟨W.heap.size, 0, none⟩) [⟨#[47, 42]⟩, ⟨#[33, 47, 98]⟩]) := Lib.hid fun W => sat_strs (l := [⟨#[47, 42]⟩, ⟨#[33, 47, 98]⟩]) (heap_alloc_new W _)
  have HK := Lib.hid fun (W : World) (hb : Below w.heap.size w W) (q : ByteArray) (hq : q.size < 4294967281) => gskips_any (some ⟨W.heap.size, 0, none⟩) 2 [⟨#[47, 42]⟩, ⟨#[33, 47, 98]⟩] q m _ (HS1.out W) (by decide) (fun y hy => by
    simp only [List.mem_cons, List.not_mem_nil, or_false] at hy
    rcases hy with rfl | rfl <;> decide) ((hm.below hb).below (HA.out W)) ((hT.below hb).below (HA.out W)) hq
  have HTLN : Hid (skipsP (tl (l ++ [⟨#[33, 47, 42, 42]⟩])) (bT p) = if 20 < l.length + 1 then (false, 2) else if (rulesP (tl l)).2 ≠ 0 then (false, (rulesP (tl l)).2) else if (splP ck (bT p)).2 ≠ 0 then (false, (splP ck (bT p)).2) else (false, 0)) := Lib.hid (by
    rw [tl_snoc]
    have := last_rule (tl l) (bT ⟨#[33, 47, 42, 42]⟩) (bT p) rule_not
    rw [tl_length] at this
    exact this)
  have HTLA : Hid (skipsP (tl (l ++ [⟨#[47, 42, 42]⟩])) (bT p) = if 20 < l.length + 1 then (false, 2) else if (rulesP (tl l)).2 ≠ 0 then (false, (rulesP (tl l)).2) else if (splP ck (bT p)).2 ≠ 0 then (false, (splP ck (bT p)).2) else (decide ((splP ck (bT p)).1 ≠ []), 0)) := Lib.hid (by
    rw [tl_snoc]
    have := last_rule (tl l) (bT ⟨#[47, 42, 42]⟩) (bT p) rule_all
    rw [tl_length] at this
    rw [this]
    rfl)
  have HRI := Lib.hid fun (h : (splP ck (bT p)).2 = 0) => root_iff h
  clear h hl hz hm hT
  go_enter Tryd.func11, Tryd.ntmps11
  have HK1 := Lib.hid (HK.out w (Below.refl _ _) ⟨#[47, 98]⟩ (by decide))
  rw [sk_b] at HK1
  go_wp2_with fail
  refine HK1.out.mono ?_
  rintro e u1 ⟨rfl, hb⟩
  have HB1 := Lib.hid (Below.step (HA.out w) hb)
  clear hb HK1
  have HK2 := Lib.hid (HK.out u1 HB1.out ⟨#[47, 99]⟩ (by decide))
  rw [sk_c] at HK2
  go_wp2_with fail
  refine HK2.out.mono ?_
  rintro e u2 ⟨rfl, hb⟩
  have HB2 := Lib.hid (Below.step (Below.step HB1.out (HA.out u1)) hb)
  clear hb HK2 HB1 HK HS1 HA
  have HCL3 := Lib.hid (cloneStrG_any a cap l u2 (HS.out.below HB2.out) (by have := HLN.out; omega))
  go_wp2_with fail
  refine HCL3.out.mono ?_
  rintro e c3 ⟨hb, oa, oc, rfl, hown⟩
  have HBC := Lib.hid (Below.step HB2.out hb)
  have HWZ : Hid (w.heap.size ≤ u2.heap.size) := Lib.hid HB2.out.size
  have HOC := Lib.hid (own_lowG hown HWZ.out)
  clear hb hown HCL3
  have HAL := Lib.hid ((Below.refl c3.heap.size c3).alloc (Nat.le_refl _) (.cells #[.string (⟨#[33, 47, 42, 42]⟩ : ByteArray)] 9))
  have D1 := Lib.hid (cells_new_at c3 c3.heap.size rfl #[.string (⟨#[33, 47, 42, 42]⟩ : ByteArray)] 9 (sC (⟨#[33, 47, 42, 42]⟩ : ByteArray)) rfl)
  have D2 := Lib.hid (sC_one (⟨#[33, 47, 42, 42]⟩ : ByteArray))
  have D3 : Hid (l.length + 1 ≤ maxLen) := Lib.hid (by have := HLN.out; unfold maxLen; omega)
  have D4 : Hid ((l.length + 1) * 16 ≤ 140737488355328) := Lib.hid (by have := HLN.out; omega)
  have D5 : Hid (w.heap.size ≤ (c3.alloc (.cells #[.string (⟨#[33, 47, 42, 42]⟩ : ByteArray)] 9)).heap.size) := Lib.hid (by have := HBC.out.size; simp; omega)
  have HOA := Lib.hid (own_belowG HOC.out HAL.out)
  have HBA := Lib.hid (Below.step HBC.out HAL.out)
  clear HBC HAL HOC HWZ
  go_wp2_with (at_builtin; refine wpList_append_own _ rfl _ _ 36 rfl w.heap.size 9 i0 (.string ⟨#[]⟩) 1 16 Tryd.underlying36 hi0 hz0 hz1 hz2 rfl (by decide) _ _ _ rfl HOA.out ⟨c3.heap.size, 0, none⟩ 1 1 (sC (⟨#[33, 47, 42, 42]⟩ : ByteArray)) rfl rfl D1.out D2.out D3.out D4.out D5.out ?_)
  intro v' d3 hown' hgrow _
  obtain ⟨oa2, oc2, rfl⟩ := own_formG hown'
  have HBD := Lib.hid (HBA.out.grown hgrow (by have h9 := HBA.out.size; exact h9) (fun k hk => (HOA.out.lt k hk).1))
  have HO2 : Hid (d3.ownsRow w.heap.size 9 1 (.slice oa2 (l ++ [(⟨#[33, 47, 42, 42]⟩ : ByteArray)]).length oc2) (l ++ [(⟨#[33, 47, 42, 42]⟩ : ByteArray)]).length ((l ++ [(⟨#[33, 47, 42, 42]⟩ : ByteArray)]).flatMap sC)) := Lib.hid (by rw [List.length_append, List.length_singleton, List.flatMap_append, List.flatMap_singleton]; exact hown')
  have HSD := Lib.hid (own_satG sC_length HO2.out).1
  have HSK := Lib.hid (gskips_any oa2 oc2 (l ++ [(⟨#[33, 47, 42, 42]⟩ : ByteArray)]) p m d3 HSD.out (by rw [List.length_append, List.length_singleton]; have := HLN.out; omega) (fun y hy => by
    rcases List.mem_append.1 hy with h | h
    · have := HZ.out y h; omega
    · rw [List.mem_singleton] at h; subst h; decide) (HM.out.below HBD.out) (HT.out.below HBD.out) HPZ.out)
  rw [List.length_append, List.length_singleton] at HSK
  clear hown' hgrow HOA HBA D1 D2 D3 D4 D5 HO2 HSD
  go_wp2_with fail
  refine HSK.out.mono ?_
  rintro e u3 ⟨rfl, hb⟩
  have HB3 := Lib.hid (Below.step HBD.out hb)
  clear hb HSK HBD
  have HCL4 := Lib.hid (cloneStrG_any a cap l u3 (HS.out.below HB3.out) (by have := HLN.out; omega))
  go_wp2_with fail
  refine HCL4.out.mono ?_
  rintro e c4 ⟨hb, oa, oc, rfl, hown⟩
  have HBC := Lib.hid (Below.step HB3.out hb)
  have HWZ : Hid (w.heap.size ≤ u3.heap.size) := Lib.hid HB3.out.size
  have HOC := Lib.hid (own_lowG hown HWZ.out)
  clear hb hown HCL4
  have HAL := Lib.hid ((Below.refl c4.heap.size c4).alloc (Nat.le_refl _) (.cells #[.string (⟨#[47, 42, 42]⟩ : ByteArray)] 9))
  have D1 := Lib.hid (cells_new_at c4 c4.heap.size rfl #[.string (⟨#[47, 42, 42]⟩ : ByteArray)] 9 (sC (⟨#[47, 42, 42]⟩ : ByteArray)) rfl)
  have D2 := Lib.hid (sC_one (⟨#[47, 42, 42]⟩ : ByteArray))
  have D3 : Hid (l.length + 1 ≤ maxLen) := Lib.hid (by have := HLN.out; unfold maxLen; omega)
  have D4 : Hid ((l.length + 1) * 16 ≤ 140737488355328) := Lib.hid (by have := HLN.out; omega)
  have D5 : Hid (w.heap.size ≤ (c4.alloc (.cells #[.string (⟨#[47, 42, 42]⟩ : ByteArray)] 9)).heap.size) := Lib.hid (by have := HBC.out.size; simp; omega)
  have HOA := Lib.hid (own_belowG HOC.out HAL.out)
  have HBA := Lib.hid (Below.step HBC.out HAL.out)
  clear HBC HAL HOC HWZ
  go_wp2_with (at_builtin; refine wpList_append_own _ rfl _ _ 36 rfl w.heap.size 9 i0 (.string ⟨#[]⟩) 1 16 Tryd.underlying36 hi0 hz0 hz1 hz2 rfl (by decide) _ _ _ rfl HOA.out ⟨c4.heap.size, 0, none⟩ 1 1 (sC (⟨#[47, 42, 42]⟩ : ByteArray)) rfl rfl D1.out D2.out D3.out D4.out D5.out ?_)
  intro v' d4 hown' hgrow _
  obtain ⟨oa2, oc2, rfl⟩ := own_formG hown'
  have HBD := Lib.hid (HBA.out.grown hgrow (by have h9 := HBA.out.size; exact h9) (fun k hk => (HOA.out.lt k hk).1))
  have HO2 : Hid (d4.ownsRow w.heap.size 9 1 (.slice oa2 (l ++ [(⟨#[47, 42, 42]⟩ : ByteArray)]).length oc2) (l ++ [(⟨#[47, 42, 42]⟩ : ByteArray)]).length ((l ++ [(⟨#[47, 42, 42]⟩ : ByteArray)]).flatMap sC)) := Lib.hid (by rw [List.length_append, List.length_singleton, List.flatMap_append, List.flatMap_singleton]; exact hown')
  have HSD := Lib.hid (own_satG sC_length HO2.out).1
  have HSK := Lib.hid (gskips_any oa2 oc2 (l ++ [(⟨#[47, 42, 42]⟩ : ByteArray)]) p m d4 HSD.out (by rw [List.length_append, List.length_singleton]; have := HLN.out; omega) (fun y hy => by
    rcases List.mem_append.1 hy with h | h
    · have := HZ.out y h; omega
    · rw [List.mem_singleton] at h; subst h; decide) (HM.out.below HBD.out) (HT.out.below HBD.out) HPZ.out)
  rw [List.length_append, List.length_singleton] at HSK
  clear hown' hgrow HOA HBA D1 D2 D3 D4 D5 HO2 HSD
  go_wp2_with fail
  refine HSK.out.mono ?_
  rintro e u4 ⟨rfl, hb⟩
  have HB4 := Lib.hid (Below.step HBD.out hb)
  clear hb HSK HBD
  have key : ∀ (o1 o2 : Bool) (c1 c2 : Int) (r : Bool), skipsP (tl (l ++ [⟨#[33, 47, 42, 42]⟩])) (bT p) = (o1, c1) → skipsP (tl (l ++ [⟨#[47, 42, 42]⟩])) (bT p) = (o2, c2) → (p.toList != [47]) = r → o1 = false ∧ c1 = c2 ∧ ((c1 ≠ 0 ∧ o2 = false) ∨ (c1 = 0 ∧ o2 = r)) := by
    intro o1 o2 c1 c2 r h1 h2 h3
    rw [HTLN.out] at h1
    rw [HTLA.out] at h2
    by_cases k1 : 20 < l.length + 1
    · rw [if_pos k1] at h1 h2
      cases h1; cases h2
      exact ⟨rfl, rfl, .inl ⟨by decide, rfl⟩⟩
    rw [if_neg k1] at h1 h2
    by_cases k2 : (rulesP (tl l)).2 ≠ 0
    · rw [if_pos k2] at h1 h2
      cases h1; cases h2
      exact ⟨rfl, rfl, .inl ⟨k2, rfl⟩⟩
    rw [if_neg k2] at h1 h2
    by_cases k3 : (splP ck (bT p)).2 ≠ 0
    · rw [if_pos k3] at h1 h2
      cases h1; cases h2
      exact ⟨rfl, rfl, .inl ⟨k3, rfl⟩⟩
    rw [if_neg k3] at h1 h2
    cases h1; cases h2
    refine ⟨rfl, rfl, .inr ⟨rfl, ?_⟩⟩
    have hi := HRI.out (Classical.not_not.1 k3)
    rw [← h3]
    by_cases e : p = slash1
    · have e2 : (splP ck (bT p)).1 = [] := hi.2 (by rw [e]; rfl)
      rw [e2, bne, show (p.toList == [47]) = true from slash1_list ▸ same_strB (b := slash1) e]
      rfl
    · have e2 : (splP ck (bT p)).1 ≠ [] := fun h => e (bT_inj (hi.1 h))
      rw [decide_eq_true e2, bne, show (p.toList == [47]) = false from slash1_list ▸ other_strB (b := slash1) e]
      rfl
  have KEY := Lib.hid key
  clear key HTLN HTLA HRI
  generalize h1 : skipsP (tl (l ++ [⟨#[33, 47, 42, 42]⟩])) (bT p) = R1 at *
  generalize h2 : skipsP (tl (l ++ [⟨#[47, 42, 42]⟩])) (bT p) = R2 at *
  obtain ⟨o1, c1⟩ := R1
  obtain ⟨o2, c2⟩ := R2
  obtain ⟨r, hr⟩ : ∃ r, (p.toList != [47]) = r := ⟨_, rfl⟩
  obtain ⟨k1, k2, k3⟩ := KEY.out o1 o2 c1 c2 r rfl rfl hr
  subst k1
  subst k2
  clear KEY h1 h2
  have q1 : (c1 == c1) = true := by simp
  rcases k3 with ⟨k3, k4⟩ | ⟨k3, k4⟩
  · subst k4
    have f1 : (c1 != 0) = true := by simpa using k3
    clear k3
    go_wp2_with fail
    go_ret
    exact ⟨rfl, HB4.out⟩
  · subst k3
    subst k4
    have h9 : (p.toList == [47]) = !o2 := by rw [← hr, bne, Bool.not_not]
    have HR9 := Lib.hid h9
    clear hr h9
    cases o2
    all_goals go_wp2_with fail
    all_goals go_ret
    all_goals exact ⟨by simp [HR9.out], HB4.out⟩
end Go.Proofs.YtokckcmkbnhhhaaDoor
