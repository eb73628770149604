/- The walk of move.Read. -/
import Derived.Test.YtmdodcpmbhehdaaDoorMoveOld
import Derived.Test.YtmdodcpmbhehdaaDoorScanW
import Derived.Test.YtmdodcpmbhehdaaDoorMoveBackP
namespace Go.Proofs.YtmdodcpmbhehdaaDoor
open Go.RowKit Plain Go.Maps
set_option linter.unusedVariables false
set_option linter.unusedSimpArgs false
theorem own_grownM {w w' : World} {base base' : Nat} {e e' : TypeId} {k k' n n' : Nat} {v v' : Value} {xs xs' : List Value} (h : w.ownsRow base e k v n xs) (h' : w.ownsRow base' e' k' v' n' xs') (hne : e ≠ e') (hg : w.grownBy w' v'.ownBlock) : w'.ownsRow base e k v n xs := by
  refine ⟨h.1, ?_⟩
  rcases h.2 with hv | ⟨g, cap, cur, hv, hB, hg2, h3⟩
  · exact .inl hv
  · exact .inr ⟨g, cap, cur, hv, hB, (hg.block g (lt_of_block hg2) (fun e => own_neM h' hg2 (Ne.symm hne) e.symm)).trans hg2, h3⟩
/-- an old snapshot that was read: its items lie in a row of the call's own -/
def RdOk (w : World) (base : Nat) (o : OM) : Prop := w.ownsRow base 95 5 (.slice o.2.2.1 o.2.2.2.2.length o.2.2.2.1) o.2.2.2.2.length (o.2.2.2.2.flatMap iC) ∧ o.1.size ≤ 1024 ∧ 0 ≤ o.2.1 ∧ o.2.2.2.2.length ≤ 100 ∧ ∀ x ∈ o.2.2.2.2, ItRd x
theorem RdOk.below {w w' : World} {base : Nat} {o : OM} (h : RdOk w base o) (hb : Below w.heap.size w w') : RdOk w' base o := ⟨own_belowM h.1 hb, h.2⟩
theorem RdOk.grown {w w' : World} {base base' k n : Nat} {o : OM} {v : Value} {xs : List Value} (h : RdOk w base o) (h' : w.ownsRow base' 57 k v n xs) (hg : w.grownBy w' v.ownBlock) : RdOk w' base o := ⟨own_grownM h.1 h' (by decide) hg, h.2⟩
theorem RdOk.ok {w : World} {base : Nat} {o : OM} (h : RdOk w base o) : OmOk w o := by
  obtain ⟨a1, c1, e1, h1, h2, hs1⟩ := SAt.own h.1 iC_length
  injection e1 with e1 _ e3
  refine ⟨by have := h.2.1; omega, by rw [e1]; exact hs1, by have := h.2.2.2.1; omega, fun x hx => ⟨by have := (h.2.2.2.2 x hx).1; omega, (h.2.2.2.2 x hx).2⟩⟩
theorem info_oldM : ∃ i, Tryd.prog.info? 57 = some i ∧ i.zero = some (.agg #[.string ⟨#[]⟩, .int .i64 0, .slice none 0 0]) ∧ i.size = 3 ∧ i.bytes = 48 := info_parts (by kernel_rfl)
theorem omC_one (o : OM) : ∀ u ∈ omC o, u.oneCell' = true := by intro u hu; simp only [omC, List.mem_cons, List.not_mem_nil, or_false] at hu; rcases hu with rfl | rfl | rfl <;> rfl
/-- what Read hands back -/
def RrEnd (w0 : World) (s : ByteArray) (e : Ending) (w : World) : Prop := Below w0.heap.size w0 w ∧ ((∃ (a : Option Addr) (c : Nat) (O : List OM), e = .returned (.tuple #[.slice a O.length c, .int .i64 0]) ∧ SAt 3 omC w a O ∧ (∀ o ∈ O, OmOk w o) ∧ O.length ≤ 20 ∧ MvOk O ∧ (∃ R, RecsOf O R ∧ Frms idf (R.map strN) (strN s)) ∧ s.size ≤ 65536) ∨ (e = .returned (.tuple #[.slice none 0 0, .int .i64 4]) ∧ ∀ (L : List OM) (R : List ByteArray), s.size ≤ 65536 → MvOk L → RecsOf L R → (∀ o ∈ L, OlB (olOf o)) → ¬ Frms idf (R.map strN) (strN s)))
theorem scan_small {s : List Nat} {l : List (List Nat)} {n : Nat} (h : Scan idf s l n) : ∀ r ∈ l, r.length ≤ 4096 := by
  induction h with
  | stop _ => intro r hr; cases hr
  | @go s r k n l h1 _ ih =>
    intro x hx
    rcases List.mem_cons.1 hx with rfl | hx
    · unfold stepF at h1
      split at h1
      · rename_i h2
        split at h1
        · cases h1
        · injection h1 with h1
          injection h1 with h1 _
          rw [← h1, List.length_drop, List.length_take]
          have := h2.2
          omega
      · cases h1
    · exact ih x hx
theorem own_lowM {w : World} {base base' : Nat} {e : TypeId} {k n : Nat} {v : Value} {xs : List Value} (h : w.ownsRow base e k v n xs) (hb : base' ≤ base) : w.ownsRow base' e k v n xs := by
  refine ⟨h.1, ?_⟩
  rcases h.2 with h0 | ⟨g, cap, cur, hv, hg, hh⟩
  · exact .inl h0
  · exact .inr ⟨g, cap, cur, hv, Nat.le_trans hb hg, hh⟩
set_option maxRecDepth 100000 in
set_option maxHeartbeats 8000000 in
theorem mread_any (s : ByteArray) (m : Int) (w : World) (hz : s.size ≤ 70000000) (hm : MaxL m w) (hT : Tabs w) :
    Calls Tryd.prog 20 #[.string s] w (RrEnd w s) := by
  obtain ⟨i0, hi0, hz0, hz1, hz2⟩ := info_oldM
  have HSC := Lib.hid (scan_any s w hz)
  have HM := Lib.hid hm
  have HT := Lib.hid hT
  have HZ := Lib.hid hz
  clear hm hT
  go_enter Tryd.func20, Tryd.ntmps20
  go_wp2_with fail
  refine HSC.out.mono ?_
  rintro e w1 ⟨rs, pp, a, c, hsc, hp, hrl, rfl, hown, hb⟩
  have HSN := Lib.hid hsc
  have HB1 := Lib.hid hb
  have HRS := Lib.hid (sat_ownM hown)
  have hrl63 : (rs.length : Int) ≤ 70000000 := by omega
  clear hsc hp hown hb HSC
  go_wp2_with fail
  go_loopw [6, 19] (fun ov iv wr => ∃ (i : Nat) (oa : Option Addr) (oc : Nat) (O : List OM), i ≤ rs.length ∧ iv = .int .i64 (i : Int) ∧ ov = .slice oa O.length oc ∧ Hid (O.length = i) ∧ Hid (wr.ownsRow w1.heap.size 57 3 (.slice oa O.length oc) O.length (O.flatMap omC)) ∧ Hid (∀ o ∈ O, RdOk wr w1.heap.size o) ∧ Hid (RdAs rs O) ∧ Hid (Below w1.heap.size w1 wr)) (fun _ iv _ => rs.length - (intOf iv).toNat)
  case atStart => exact ⟨0, none, 0, [], by omega, rfl, rfl, Lib.hid rfl, Lib.hid (World.ownsRow_nil _ _ _ _), Lib.hid (by simp), Lib.hid (fun i h => by simp at h), Lib.hid (Below.refl _ _)⟩
  case round =>
    obtain ⟨i, oa, oc, O, hi, rfl, rfl, HOL, HW, HOK, HAS, HBR⟩ := hrel
    by_cases hlt : i < rs.length
    · have m1 : (i : Int) < (rs.length : Int) := by omega
      obtain ⟨g, off, rfl, hg, hr⟩ := (HRS.out.below HBR.out) i hlt
      have y0 := hr 0 _ rfl
      simp only [Nat.add_zero, Nat.mul_one] at y0
      have HRZ : Hid (rs[i].size ≤ 4096) := Lib.hid (by rw [← strN_length]; exact scan_small HSN.out _ (List.mem_map.2 ⟨_, List.getElem_mem hlt, rfl⟩))
      have HNX : Hid (∀ o, (∀ o' u, RdO (strN rs[i]) o' u → o' = olOf o) → RdAs rs (O ++ [o])) := Lib.hid fun o ho j h1 h2 => by
        by_cases hj : j < O.length
        · rw [List.getElem_append_left hj]
          exact HAS.out j hj h2
        · have : j = i := by simp at h1; have := HOL.out; omega
          subst this
          rw [List.getElem_append_right (by rw [HOL.out]; exact Nat.le_refl _)]
          simpa [HOL.out] using ho
      clear hr hg
      generalize rs[i] = r at *
      have HAL := Lib.hid ((Below.refl wr.heap.size wr).alloc (Nat.le_refl _) (.cells #[.string r, .bool false] 90))
      have HOLD := Lib.hid (old_any wr.heap.size r (wr.alloc (.cells #[.string r, .bool false] 90)) (by have := HRZ.out; omega) (heap_alloc_new wr _))
      go_wp2_with fail
      refine HOLD.out.mono ?_
      rintro e w2 ⟨o, rfl, hbx, hro⟩
      have hbw : Below wr.heap.size wr w2 := HAL.out.trans (hbx.below (Nat.le_refl _) HAL.out.size)
      have HB2 := Lib.hid (Below.step HBR.out hbw)
      have HRO : Hid (RdOk w2 w1.heap.size o) := Lib.hid ⟨own_lowM hro.1 (Nat.le_trans HBR.out.size HAL.out.size), hro.2.1, hro.2.2.1, hro.2.2.2.1, hro.2.2.2.2.1⟩
      have HA2 := Lib.hid (HNX.out o (hro.2.2.2.2.2 rfl))
      have HOK2 : Hid (∀ o ∈ O, RdOk w2 w1.heap.size o) := Lib.hid fun o ho => (HOK.out o ho).below hbw
      have HW2 := Lib.hid (own_belowM HW.out hbw)
      clear hbx hro hbw HAL HOLD HW HOK HNX y0
      have hOS : (O ++ [o]).length = O.length + 1 := by simp
      have HOF : Hid ((O ++ [o]).flatMap omC = O.flatMap omC ++ omC o) := Lib.hid (by simp)
      have HMEM : Hid (∀ x ∈ O ++ [o], RdOk w2 w1.heap.size x) := Lib.hid fun x hx => by
        rcases List.mem_append.1 hx with hx | hx
        · exact HOK2.out x hx
        · rw [List.mem_singleton] at hx; subst hx; exact HRO.out
      generalize O ++ [o] = O2 at *
      obtain ⟨nm, tm, wa, wc, l⟩ := o
      simp only [omC]
      simp only [omC] at HOF
      have HAL := Lib.hid ((Below.refl w2.heap.size w2).alloc (Nat.le_refl _) (.cells #[.string nm, .int .i64 tm, .slice wa l.length wc] 57))
      have D1 := Lib.hid (cells_new_at w2 w2.heap.size rfl #[.string nm, .int .i64 tm, .slice wa l.length wc] 57 [.string nm, .int .i64 tm, .slice wa l.length wc] rfl)
      have D2 : Hid (∀ u ∈ ([.string nm, .int .i64 tm, .slice wa l.length wc] : List Value), u.oneCell' = true) := Lib.hid (omC_one (nm, tm, wa, wc, l))
      have D3 : Hid (O.length + 1 ≤ maxLen) := Lib.hid (by have := HOL.out; unfold maxLen; omega)
      have D4 : Hid ((O.length + 1) * 48 ≤ 140737488355328) := Lib.hid (by have := HOL.out; omega)
      have D5 : Hid (w1.heap.size ≤ (w2.alloc (.cells #[.string nm, .int .i64 tm, .slice wa l.length wc] 57)).heap.size) := Lib.hid (by have := HB2.out.size; have := HAL.out.size; omega)
      have HWA := Lib.hid (own_belowM HW2.out HAL.out)
      have HBA := Lib.hid (Below.step HB2.out HAL.out)
      have HMA : Hid (∀ x ∈ O2, RdOk (w2.alloc (.cells #[.string nm, .int .i64 tm, .slice wa l.length wc] 57)) w1.heap.size x) := Lib.hid fun x hx => (HMEM.out x hx).below HAL.out
      clear HW2 HAL HMEM HRO HOK2 HB2
      go_wp2_with (at_builtin; refine wpList_append_own _ rfl _ _ 53 rfl w1.heap.size 57 i0 (.agg #[.string ⟨#[]⟩, .int .i64 0, .slice none 0 0]) 3 48 Tryd.underlying53 hi0 hz0 hz1 hz2 rfl (by decide) _ _ _ rfl HWA.out ⟨w2.heap.size, 0, none⟩ 1 1 [.string nm, .int .i64 tm, .slice wa l.length wc] rfl rfl D1.out D2.out D3.out D4.out D5.out ?_)
      intro v' w3 hown' hgrow _
      obtain ⟨oa2, oc2, rfl⟩ := own_form1 hown'
      have HB3 := Lib.hid (HBA.out.grown hgrow (by have h9 := HBA.out.size; exact h9) (fun k hk => (HWA.out.lt k hk).1))
      have HM3 : Hid (∀ x ∈ O2, RdOk w3 w1.heap.size x) := Lib.hid fun x hx => (HMA.out x hx).grown HWA.out hgrow
      have HW3 : Hid (w3.ownsRow w1.heap.size 57 3 (.slice oa2 O2.length oc2) O2.length (O2.flatMap omC)) := Lib.hid (by
        rw [hOS, HOF.out]
        exact hown')
      clear hown' hgrow HWA HBA HMA D1 D2 D3 D4 D5
      go_wp2_with fail
      go_roundw
      case rel => exact ⟨i + 1, oa2, oc2, O2, by omega, by go_num, by rw [hOS], Lib.hid (by rw [hOS, HOL.out]), HW3, HM3, HA2, HB3⟩
      case measure => simp [intOf]; omega
    · have m1 : ¬ (i : Int) < (rs.length : Int) := by omega
      have HLEN : Hid (O.length = rs.length) := Lib.hid (by have := HOL.out; omega)
      have HBW := Lib.hid (Below.step HB1.out HBR.out)
      have HSO : Hid (SAt 3 omC wr oa O) := Lib.hid (by
        obtain ⟨a1, c1, e1, _, _, hs1⟩ := SAt.own HW.out omC_length
        injection e1 with e1 _ e3
        rw [e1]
        exact hs1)
      have HPK := Lib.hid (mpack_any oa oc O m wr HSO.out (by have := HLEN.out; omega) (fun o ho => (HOK.out o ho).ok) (HM.out.below HBW.out) (HT.out.below HBW.out))
      have HBK := Lib.hid fun (L : List OM) (R : List ByteArray) (hk : MvOk L) (hr : RecsOf L R) (hb : ∀ o ∈ L, OlB (olOf o)) (hf : Frms idf (R.map strN) (strN s)) => move_back HSN.out HAS.out HLEN.out (fun o ho => (HOK.out o ho).2.2.1) hk hr hb hf
      go_wp2_with fail
      refine HPK.out.mono ?_
      rintro e w2 ⟨⟨t, hmv, hrec, htz, rfl⟩ | ⟨c2, hc2, hn, rfl⟩, hb⟩
      · have HB2 := Lib.hid (Below.step HBW.out hb)
        have HMV := Lib.hid hmv
        have HREC := Lib.hid hrec
        have HTZ := Lib.hid htz
        have HS2 := Lib.hid (HSO.out.below hb)
        have HO2 : Hid (∀ o ∈ O, OmOk w2 o) := Lib.hid fun o ho => ((HOK.out o ho).ok).below hb
        clear hmv hrec htz hb HPK
        by_cases hts : t = s
        · subst hts
          have f1 : (t.toList == t.toList) = true := by simp
          go_wp2_with fail
          go_ret2
          exact ⟨HB2.out, .inl ⟨oa, oc, O, rfl, HS2.out, HO2.out, HMV.out.1, HMV.out, HREC.out, HTZ.out⟩⟩
        · have f1 := other_strB hts
          have HNE := Lib.hid hts
          clear hts
          go_wp2_with fail
          go_ret2
          refine ⟨HB2.out, .inr ⟨rfl, fun L R _ hk hr hb hf => ?_⟩⟩
          obtain ⟨_, h2, _, _⟩ := HBK.out L R hk hr hb hf
          obtain ⟨R2, h3, h4⟩ := HREC.out
          have e := h3.unique h2 rfl
          subst e
          exact HNE.out (strN_inj (h4.unique hf))
      · have HB2 := Lib.hid (Below.step HBW.out hb)
        have HN := Lib.hid hn
        have f2 : (c2 != 0) = true := by simpa using hc2
        clear hn hc2 hb HPK
        go_wp2_with fail
        go_ret2
        refine ⟨HB2.out, .inr ⟨rfl, fun L R hz5 hk hr hb hf => ?_⟩⟩
        obtain ⟨h1, h2, _, _⟩ := HBK.out L R hk hr hb hf
        exact HN.out ⟨h1, R, h2, strN s, hf, by rw [strN_length]; exact hz5⟩
end Go.Proofs.YtmdodcpmbhehdaaDoor
