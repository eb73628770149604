/- The walk of move.Pack. -/
import Derived.Test.YtmdodcpmbhehdaaDoorMoveChk
import Derived.Test.YtmdodcpmbhehdaaDoorJournalW
namespace Go.Proofs.YtmdodcpmbhehdaaDoor
open Go.RowKit Plain Go.Maps
set_option linter.unusedVariables false
set_option linter.unusedSimpArgs false
/-- the records of old snapshots -/
def RecsOf (L : List OM) (R : List ByteArray) : Prop := R.length = L.length ∧ ∀ (i : Nat) (h : i < L.length) (h' : i < R.length), EncOl (olOf L[i]) (strN R[i])
theorem RecsOf.snoc {L : List OM} {R : List ByteArray} {o : OM} {s : ByteArray} (h : RecsOf L R) (hs : EncOl (olOf o) (strN s)) : RecsOf (L ++ [o]) (R ++ [s]) := by
  refine ⟨by simp [h.1], fun i h1 h2 => ?_⟩
  by_cases hi : i < L.length
  · rw [List.getElem_append_left hi, List.getElem_append_left (by rw [h.1]; exact hi)]
    exact h.2 i hi _
  · have h3 : i = L.length := by simp at h1; omega
    subst h3
    rw [List.getElem_append_right (Nat.le_refl _), List.getElem_append_right (by rw [h.1]; exact Nat.le_refl _)]
    simpa [h.1] using hs
theorem RecsOf.unique {L M : List OM} {R S : List ByteArray} (h : RecsOf L R) (g : RecsOf M S) (e : L.map olOf = M.map olOf) : R = S := by
  have hl : L.length = M.length := by have := congrArg List.length e; simpa using this
  apply List.ext_getElem
  · rw [h.1, g.1, hl]
  · intro i h1 h2
    have i1 : i < L.length := by rw [← h.1]; exact h1
    have i2 : i < M.length := by rw [← g.1]; exact h2
    have e2 : olOf L[i] = olOf M[i] := by
      have := List.getElem_of_eq e (i := i) (by simpa using i1)
      simpa using this
    have a := h.2 i i1 h1
    have b := g.2 i i2 h2
    rw [e2] at a
    exact strN_inj (a.unique b)
theorem own_belowM {w w' : World} {base : Nat} {e : TypeId} {k : Nat} {v : Value} {n : Nat} {xs : List Value} (h : w.ownsRow base e k v n xs) (hb : Below w.heap.size w w') : w'.ownsRow base e k v n xs := by
  refine ⟨h.1, ?_⟩
  rcases h.2 with hv | ⟨g, cap, cur, hv, hB, hg, h3⟩
  · exact .inl hv
  · exact .inr ⟨g, cap, cur, hv, hB, (hb.block g (lt_of_block hg)).trans hg, h3⟩
theorem sat_ownM {w : World} {base : Nat} {L : List ByteArray} {a : Option Addr} {c : Nat} (h : w.ownsRow base 9 1 (.slice a L.length c) L.length (L.flatMap sC)) : SAt 1 sC w a L := by
  obtain ⟨a1, c1, e1, h1, h2, hs1⟩ := SAt.own h (fun _ => rfl)
  injection e1 with e1 _ e3
  subst e1
  exact hs1
theorem info_strM : ∃ i, Tryd.prog.info? 9 = some i ∧ i.zero = some (.string ⟨#[]⟩) ∧ i.size = 1 ∧ i.bytes = 16 := info_parts (by kernel_rfl)
/-- what Pack asks -/
def PkOkM (L : List OM) : Prop := MvOk L ∧ ∃ R, RecsOf L R ∧ AllOk R
def PkEndM (w0 : World) (L : List OM) (e : Ending) (w : World) : Prop := ((∃ t : ByteArray, MvOk L ∧ (∃ R, RecsOf L R ∧ Frms idf (R.map strN) (strN t)) ∧ t.size ≤ 65536 ∧ e = .returned (.tuple #[.string t, .int .i64 0])) ∨ (∃ c : Int, c ≠ 0 ∧ ¬ PkOkM L ∧ e = .returned (.tuple #[.string ⟨#[]⟩, .int .i64 c]))) ∧ Below w0.heap.size w0 w
set_option maxRecDepth 100000 in
set_option maxHeartbeats 8000000 in
theorem mpack_any (a : Option Addr) (cap : Nat) (L : List OM) (m : Int) (w : World) (h : SAt 3 omC w a L) (hl : L.length ≤ 9223372036854775807) (ho : ∀ o ∈ L, OmOk w o) (hm : MaxL m w) (hT : Tabs w) :
    Calls Tryd.prog 19 #[.slice a L.length cap] w (PkEndM w L) := by
  obtain ⟨i0, hi0, hz0, hz1, hz2⟩ := info_strM
  have HS := Lib.hid h
  have HO := Lib.hid ho
  have HM := Lib.hid hm
  have HC := Lib.hid (mcheck_any a cap L m w h hl ho hm hT)
  clear h ho hm hT
  go_enter Tryd.func19, Tryd.ntmps19
  go_wp2_with fail
  refine HC.out.mono ?_
  rintro e w1 ⟨⟨c, rfl, hc⟩, hb⟩
  have HB1 := Lib.hid hb
  clear hb HC
  by_cases hc0 : c = 0
  · subst hc0
    have HOK := Lib.hid (hc.1 rfl)
    have h20 := HOK.out.1
    clear hc
    go_wp2_with fail
    go_loopw [5, 15] (fun ov iv wr => ∃ (i : Nat) (oa : Option Addr) (oc : Nat) (R : List ByteArray), i ≤ L.length ∧ iv = .int .i64 (i : Int) ∧ ov = .slice oa R.length oc ∧ Hid (RecsOf (L.take i) R) ∧ Hid (∀ y ∈ R, y.size ≤ 1000000) ∧ Hid (wr.ownsRow w.heap.size 9 1 (.slice oa R.length oc) R.length (R.flatMap sC)) ∧ Hid (Below w.heap.size w wr)) (fun _ iv _ => L.length - (intOf iv).toNat)
    case atStart => exact ⟨0, none, 0, [], by omega, rfl, rfl, Lib.hid ⟨rfl, fun i h => by simp at h⟩, Lib.hid (by simp), Lib.hid (World.ownsRow_nil _ _ _ _), HB1⟩
    case round =>
      obtain ⟨i, oa, oc, R, hi, rfl, rfl, HR, HZ, HW, HBR⟩ := hrel
      by_cases hlt : i < L.length
      · have m1 : (i : Int) < (L.length : Int) := by omega
        obtain ⟨g, off, rfl, hg, hr⟩ := (HS.out.below HBR.out) i hlt
        have k0 := hr 0 _ rfl
        have k1 := hr 1 _ rfl
        have k2 := hr 2 _ rfl
        simp only [Nat.add_zero] at k0
        have HMEM := Lib.hid (List.getElem_mem hlt)
        have HTK : Hid (L.take (i + 1) = L.take i ++ [L[i]]) := Lib.hid (List.take_succ_eq_append_getElem hlt)
        have HOO := Lib.hid (HO.out _ HMEM.out)
        have HONE := Lib.hid (HOK.out.2.1 _ HMEM.out)
        have HRL : Hid (R.length = i) := Lib.hid (by rw [HR.out.1, List.length_take]; omega)
        clear hr hg
        generalize L[i] = o at *
        obtain ⟨nm, tm, wa, wc, l⟩ := o
        simp only [omC] at k0 k1 k2
        have HBA := Lib.hid (HBR.out.alloc HBR.out.size (.cells #[.string nm, .int .i64 tm, .slice wa l.length wc] 57))
        have HAL := Lib.hid ((Below.refl wr.heap.size wr).alloc (Nat.le_refl _) (.cells #[.string nm, .int .i64 tm, .slice wa l.length wc] 57))
        have HX := heap_alloc_new wr (.cells #[.string nm, .int .i64 tm, .slice wa l.length wc] 57)
        have x0 := cell_of_row _ _ 0 _ _ _ HX
        have x1 := cell_of_row _ _ 1 _ _ _ HX
        have x2 := cell_of_row _ _ 2 _ _ _ HX
        simp only [List.getElem?_toArray, List.getElem?_cons_zero, List.getElem?_cons_succ] at x0 x1 x2
        have HRC := Lib.hid (record_any (nm, tm, wa, wc, l) (wr.alloc (.cells #[.string nm, .int .i64 tm, .slice wa l.length wc] 57)) (HOO.out.below HBA.out) HONE.out.1 HONE.out.2.1 HONE.out.2.2 ⟨m, HM.out.below HBA.out⟩)
        simp only [omC] at HRC
        clear HX
        go_wp2_with fail
        refine HRC.out.mono ?_
        rintro e w2 ⟨s, rfl, hs, hsz, hb⟩
        have HS2 := Lib.hid hs
        have HSZ := Lib.hid hsz
        have HB2 := Lib.hid (Below.step HBA.out hb)
        have HW2 := Lib.hid (own_belowM (own_belowM HW.out HAL.out) hb)
        clear hs hsz hb HRC HW HAL HBA k0 k1 k2 x0 x1 x2
        have HAL := Lib.hid ((Below.refl w2.heap.size w2).alloc (Nat.le_refl _) (.cells #[.string s] 9))
        have D1 := Lib.hid (cells_new_at w2 w2.heap.size rfl #[.string s] 9 [.string s] rfl)
        have D2 : Hid (∀ u ∈ ([.string s] : List Value), u.oneCell' = true) := Lib.hid (by intro u hu; rw [List.mem_singleton] at hu; subst hu; rfl)
        have D3 : Hid (R.length + 1 ≤ maxLen) := Lib.hid (by have := HRL.out; unfold maxLen; omega)
        have D4 : Hid ((R.length + 1) * 16 ≤ 140737488355328) := Lib.hid (by have := HRL.out; omega)
        have D5 : Hid (w.heap.size ≤ (w2.alloc (.cells #[.string s] 9)).heap.size) := Lib.hid (by have := HB2.out.size; simp; omega)
        have HWA := Lib.hid (own_belowM HW2.out HAL.out)
        have HBA := Lib.hid (Below.step HB2.out HAL.out)
        clear HW2 HAL
        go_wp2_with (at_builtin; refine wpList_append_own _ rfl _ _ 23 rfl w.heap.size 9 i0 (.string ⟨#[]⟩) 1 16 Tryd.underlying23 hi0 hz0 hz1 hz2 rfl (by decide) _ _ _ rfl HWA.out ⟨w2.heap.size, 0, none⟩ 1 1 [.string s] rfl rfl D1.out D2.out D3.out D4.out D5.out ?_)
        intro v' w3 hown' hgrow _
        obtain ⟨oa2, oc2, rfl⟩ := own_form1 hown'
        have HB3 := Lib.hid (HBA.out.grown hgrow (by have h9 := HBA.out.size; exact h9) (fun k hk => (HWA.out.lt k hk).1))
        have HO3 : Hid (w3.ownsRow w.heap.size 9 1 (.slice oa2 (R ++ [s]).length oc2) (R ++ [s]).length ((R ++ [s]).flatMap sC)) := Lib.hid (by
          rw [List.length_append, List.flatMap_append]
          exact hown')
        have HR3 : Hid (RecsOf (L.take (i + 1)) (R ++ [s])) := Lib.hid (by rw [HTK.out]; exact HR.out.snoc HS2.out)
        have HZ3 : Hid (∀ y ∈ R ++ [s], y.size ≤ 1000000) := Lib.hid (fun y hy => by
          rcases List.mem_append.1 hy with hy | hy
          · exact HZ.out y hy
          · rw [List.mem_singleton] at hy; subst hy; exact HSZ.out)
        clear hown' hgrow HWA HBA D1 D2 D3 D4 D5
        have hRS : (R ++ [s]).length = R.length + 1 := by simp
        generalize R ++ [s] = R2 at *
        go_wp2_with fail
        go_roundw
        case rel => exact ⟨i + 1, oa2, oc2, R2, by omega, by go_num, by rw [hRS], HR3, HZ3, HO3, HB3⟩
        case measure => simp [intOf]; omega
      · have m1 : ¬ (i : Int) < (L.length : Int) := by omega
        obtain rfl : i = L.length := by omega
        rw [List.take_length] at HR
        have HAA := Lib.hid (all_any oa oc R wr (sat_ownM HW.out) (by rw [HR.out.1]; exact hl) (fun y hy => by have := HZ.out y hy; omega))
        clear HW
        go_wp2_with fail
        refine HAA.out.mono ?_
        rintro e w2 ⟨⟨t, ht, htz, rfl⟩ | ⟨c, hc, hn, rfl⟩, hb⟩
        · have HF := Lib.hid ht
          have HTZ := Lib.hid htz
          have HB2 := Lib.hid (Below.step HBR.out hb)
          clear ht htz hb HAA
          go_wp2_with fail
          go_ret2
          exact ⟨.inl ⟨t, HOK.out, ⟨R, HR.out, HF.out⟩, HTZ.out, rfl⟩, HB2.out⟩
        · have HN : Hid (¬ PkOkM L) := Lib.hid fun ⟨_, S, hS, hA⟩ => hn (by rw [HR.out.unique hS rfl]; exact hA)
          have HC := Lib.hid hc
          have HB2 := Lib.hid (Below.step HBR.out hb)
          clear hc hn hb HAA
          go_wp2_with fail
          go_ret2
          exact ⟨.inr ⟨c, by have := HC.out; omega, HN.out, rfl⟩, HB2.out⟩
  · have HN : Hid (¬ PkOkM L) := Lib.hid fun h => hc0 (hc.2 h.1)
    have f2 : (c != 0) = true := by simpa using hc0
    have HC0 := Lib.hid hc0
    clear hc hc0
    go_wp2_with fail
    go_ret2
    exact ⟨.inr ⟨c, HC0.out, HN.out, rfl⟩, HB1.out⟩
end Go.Proofs.YtmdodcpmbhehdaaDoor
