/- glob.parse. -/
import Derived.Test.YtokckcmkbnhhhaaDoorGlobPath
namespace Go.Proofs.YtokckcmkbnhhhaaDoor
open Go.RowKit Plain
set_option linter.unusedVariables false
set_option linter.unusedSimpArgs false
def star2B : ByteArray := ⟨#[42, 42]⟩
theorem star2B_list : star2B.toList = [42, 42] := by rw [Lib.toList_data]; rfl
theorem pts_next {t : T} {l : List T} (P : List MP) {y : MP} (h : partP t = some (ptOf y)) : (partsP (t :: l)).map (P.map ptOf ++ ·) = (partsP l).map ((P ++ [y]).map ptOf ++ ·) := by
  rw [partsP, h]
  simp only [Option.map_map]
  congr 1
  funext t
  simp
theorem pts_bad {t : T} {l : List T} (P : List MP) (h : partP t = none) : (partsP (t :: l)).map (P.map ptOf ++ ·) = none := by
  rw [partsP, h]
  rfl
theorem partP_of {s : ByteArray} {E : List ME} (h0 : s.size ≠ 0) (h : elemsP (runes s) = some (E.map elOf)) : partP (bT s) = some (decide (bT s = [42, 42]), E.map elOf) := by
  unfold partP
  rw [if_neg (fun e => h0 (by rw [← bT_length, e]; rfl)), show mkT (bT s) = s from mk_bT s, h]
theorem partP_none {s : ByteArray} (h : elemsP (runes s) = none) : partP (bT s) = none := by
  unfold partP
  split
  · rfl
  · rw [show mkT (bT s) = s from mk_bT s, h]
theorem partP_empty {s : ByteArray} (h : s.size = 0) : partP (bT s) = none := by
  unfold partP
  rw [if_pos (List.length_eq_zero_iff.1 (by rw [bT_length]; exact h))]
theorem one2k (b : Bool) (oa : Option Addr) (n c : Nat) : (#[.bool b, .slice oa n c] : Array Value).all (·.oneCell') = true := by simp [Value.oneCell']
/-- a pattern's parts in blocks of one's own -/
def QO (w : World) (base : Nat) (a : Option Addr) (c : Nat) (L : List MP) : Prop := w.ownsRow base 131 2 (.slice a L.length c) L.length (L.flatMap mpC) ∧ (∀ x ∈ L, PO w base x) ∧ L.length ≤ 61 ∧ ∀ m ∈ L, m.2.2.2.length ≤ 60
theorem QO.below {w w' : World} {base : Nat} {a : Option Addr} {c : Nat} {L : List MP} (h : QO w base a c L) (hb : Below w.heap.size w w') : QO w' base a c L := ⟨own_belowG h.1 hb, fun x hx => (h.2.1 x hx).below hb, h.2.2⟩
theorem QO.low {w : World} {base b2 : Nat} {a : Option Addr} {c : Nat} {L : List MP} (h : QO w base a c L) (hb : b2 ≤ base) : QO w b2 a c L := ⟨own_lowG h.1 hb, fun x hx => (h.2.1 x hx).low hb, h.2.2⟩
theorem own_setLow {w : World} {base : Nat} {t : TypeId} {k n : Nat} {v : Value} {xs : List Value} (h : w.ownsRow base t k v n xs) {N i : Nat} (hN : N < base) (u : Value) : (w.setCell ⟨N, i, none⟩ u).ownsRow base t k v n xs := ownsRow_setCell_other h (fun e => by have := (h.lt N e).1; omega) _
theorem QO.set {w : World} {base : Nat} {a : Option Addr} {c : Nat} {L : List MP} (h : QO w base a c L) {N i : Nat} (hN : N < base) (u : Value) : QO (w.setCell ⟨N, i, none⟩ u) base a c L := ⟨own_setLow h.1 hN u, fun x hx => ⟨own_setLow (h.2.1 x hx).1 hN u, fun y hy => own_setLow ((h.2.1 x hx).2 y hy) hN u⟩, h.2.2⟩
theorem QO.at {w : World} {base : Nat} {a : Option Addr} {c : Nat} {L : List MP} (h : QO w base a c L) : PtAt w a L := by
  obtain ⟨hs1, hs2, hs3, hs4⟩ := own_satG mpC_length h.1
  exact ⟨hs1, fun x hx => (h.2.1 x hx).at⟩
def GPEnd (p : ByteArray) (w0 : World) (e : Ending) (w : World) : Prop := Below w0.heap.size w0 w ∧
  (((parseP (bT p)).2 = 0 ∧ ∃ (a : Option Addr) (c : Nat) (L : List MP), e = .returned (.tuple #[.slice a L.length c, .int .i64 0]) ∧ QO w w0.heap.size a c L ∧ L.map ptOf = (parseP (bT p)).1) ∨
   ((parseP (bT p)).2 ≠ 0 ∧ e = .returned (.tuple #[.slice none 0 0, .int .i64 (parseP (bT p)).2])))
set_option maxRecDepth 100000 in
set_option maxHeartbeats 16000000 in
theorem gparse_any (p : ByteArray) (m : Int) (w : World) (hm : MaxL m w) (hT : Tabs w) (hp63 : p.size ≤ 9223372036854775807) : Calls Tryd.prog 58 #[.string p] w (GPEnd p w) := by
  have HCP := Lib.hid (Tryd.strings_CutPrefix p ⟨#[47]⟩ w)
  have HSL := Lib.hid lsplit_any
  have HM := Lib.hid hm
  have HT := Lib.hid hT
  clear hm hT
  by_cases h60 : 60 < p.size
  · have g1 : (60 : Int) < (p.size : Int) := by omega
    have HF : Hid (parseP (bT p) = ([], 2)) := Lib.hid (by unfold parseP; rw [if_pos (by rw [bT_length]; exact h60)])
    clear h60 HCP
    go_enter Tryd.func58, Tryd.ntmps58
    go_wp2_with fail
    go_ret2
    exact ⟨Below.refl _ _, .inr ⟨by rw [HF.out]; decide, by rw [HF.out]; rfl⟩⟩
  · have g1 : ¬ (60 : Int) < (p.size : Int) := by omega
    have hp60 : p.size ≤ 60 := by omega
    clear h60
    by_cases hp : ∃ rest, bT p = 47 :: rest
    · obtain ⟨rest, hr⟩ := hp
      have h1 : Lib.hasPrefix p.data.toList (⟨#[47]⟩ : ByteArray).data.toList = true := by
        show Lib.hasPrefix (bT p) [47] = true
        rw [hr]; simp [Lib.hasPrefix, List.isPrefixOf]
      have h2 : Lib.trimPrefix p.data.toList (⟨#[47]⟩ : ByteArray).data.toList = rest := by
        unfold Lib.trimPrefix
        rw [h1]
        show (if true = true then (bT p).drop 1 else bT p) = rest
        rw [hr]; rfl
      rw [h1, h2] at HCP
      have HVS := Lib.hid (Tryd.utf8_ValidString p w (by omega) HT.out)
      have HRZ : Hid ((⟨rest.toArray⟩ : ByteArray).size + 1 = p.size) := Lib.hid (by
        have := bT_length p
        rw [hr] at this
        show rest.length + 1 = p.size
        simpa using this)
      have HR : Hid (bT ⟨rest.toArray⟩ = rest) := Lib.hid (bT_mk rest)
      have HPP : Hid (parseP (bT p) = (if Lib.validD p.data.toList = true then (match partsP (spl rest) with
          | none => ([], 13)
          | some L => (L, 0)) else ([], 13) : List Pt × Int)) := Lib.hid (by
        have h3 : ¬ 60 < (bT p).length := by rw [bT_length]; omega
        unfold parseP
        rw [if_neg h3]
        show (match bT p with | [] => _ | c :: rest => if c = 47 ∧ Lib.validD (bT p) = true then _ else _) = _
        have h4 : Lib.validD p.data.toList = Lib.validD (bT p) := rfl
        rw [h4]
        generalize Lib.validD (bT p) = vd
        rw [hr]
        cases vd <;> simp <;> cases partsP (spl rest) <;> rfl)
      clear hr h1 h2
      generalize (⟨rest.toArray⟩ : ByteArray) = r at *
      have HRP : Hid (r.size ≤ 60) := Lib.hid (by have := HRZ.out; omega)
      generalize hvd : Lib.validD p.data.toList = vd at *
      clear hvd
      cases vd with
      | false =>
        have HF : Hid (parseP (bT p) = ([], 13)) := Lib.hid (by rw [HPP.out]; rfl)
        clear HPP
        go_enter Tryd.func58, Tryd.ntmps58
        go_wp2_with fail
        refine HCP.out.mono ?_
        rintro e w1 ⟨rfl, rfl⟩
        obtain ⟨w, rfl⟩ : ∃ w, w = w1 := ⟨_, rfl⟩
        go_wp2_with fail
        refine HVS.out.mono ?_
        rintro e w2 ⟨rfl, hb2⟩
        have HB2 := Lib.hid hb2
        clear hb2 HCP HVS
        go_wp2_with fail
        go_ret2
        exact ⟨HB2.out, .inr ⟨by rw [HF.out]; decide, by rw [HF.out]; rfl⟩⟩
      | true =>
        have HPQ : Hid (parseP (bT p) = (match partsP (spl rest) with
          | none => ([], 13)
          | some L => (L, 0) : List Pt × Int)) := Lib.hid (by rw [HPP.out, if_pos rfl])
        clear HPP
        go_enter Tryd.func58, Tryd.ntmps58
        go_wp2_with fail
        refine HCP.out.mono ?_
        rintro e w1 ⟨rfl, rfl⟩
        obtain ⟨w, rfl⟩ : ∃ w, w = w1 := ⟨_, rfl⟩
        go_wp2_with fail
        refine HVS.out.mono ?_
        rintro e w2 ⟨rfl, hb2⟩
        have HB2 := Lib.hid hb2
        have HM2 := Lib.hid (HM.out.below hb2)
        clear hb2 HCP HVS HM
        go_wp2_with fail
        refine (HSL.out r m _ (by have := HRP.out; omega) HM2.out).mono ?_
        rintro e w3 ⟨hb3, g, L, rfl, hsat, htl, hsz, hln⟩
        have HB3 := Lib.hid (Below.step HB2.out hb3)
        have HS3 := Lib.hid hsat
        have HTL : Hid (tl L = spl rest) := Lib.hid (by rw [htl, HR.out])
        have HLN : Hid (L.length ≤ 61) := Lib.hid (by have := HRP.out; omega)
        have HYZ : Hid (∀ y ∈ L, y.size ≤ 60) := Lib.hid fun y hy => by have := hsz y hy; have := HRP.out; omega
        have HZ3 : Hid (w.heap.size ≤ w3.heap.size) := Lib.hid HB3.out.size
        have hl63 : L.length ≤ 9223372036854775807 := by have := HLN.out; omega
        obtain ⟨iP, hiP, hzP, hyP, hbP⟩ := info_parts info_pt
        clear hb3 hsat htl hsz hln HSL HB2 HM2 HR
        go_wp2_with fail
        go_loopw [6, 28] (fun ov iv wr => ∃ (i : Nat) (P : List MP) (oa : Option Addr) (oc : Nat), i ≤ L.length ∧ iv = .int .i64 (i : Int) ∧ ov = .slice oa P.length oc ∧ P.length = i ∧ wr.ownsRow w3.heap.size 131 2 (.slice oa P.length oc) P.length (P.flatMap mpC) ∧ (∀ x ∈ P, PO wr w3.heap.size x ∧ x.2.2.2.length ≤ 60) ∧ Below w3.heap.size w3 wr ∧ partsP (tl L) = (partsP (tl (L.drop i))).map (P.map ptOf ++ ·)) (fun _ iv _ => L.length - (intOf iv).toNat)
        case atStart => exact ⟨0, [], none, 0, by omega, rfl, rfl, rfl, World.ownsRow_nil _ _ _ _, by simp, Below.refl _ _, by cases h : partsP (tl L) <;> simp [h]⟩
        case round =>
          obtain ⟨i, P, oa, oc, hi, rfl, rfl, hpi, hO, hE, hB, hq⟩ := hrel
          have HO := Lib.hid hO
          have HE := Lib.hid hE
          have HB := Lib.hid hB
          have HQ := Lib.hid hq
          have HPI := Lib.hid hpi
          clear hO hE hB hq hpi
          by_cases hlt : i < L.length
          · have m1 : (i : Int) < (L.length : Int) := by omega
            obtain ⟨g2, off, hgg, hcell⟩ := str_cell (HS3.out.below HB.out) i hlt
            have HY : Hid (L[i].size ≤ 60) := Lib.hid (HYZ.out _ (List.getElem_mem hlt))
            have HD : Hid (partsP (tl L) = (partsP (bT L[i] :: tl (L.drop (i + 1)))).map (P.map ptOf ++ ·)) := Lib.hid (by
              have := HQ.out
              rw [List.drop_eq_getElem_cons hlt] at this
              exact this)
            have HEL := Lib.hid gelements_any
            injection hgg with hgg
            injection hgg with hg1 hg2
            subst hg1
            subst hg2
            clear HQ
            simp only [Nat.zero_add] at hcell
            generalize L[i] = s at *
            obtain ⟨q2, hq2⟩ : ∃ q2, (s.toList == [42, 42]) = q2 := ⟨_, rfl⟩
            have HQ2 : Hid (q2 = decide (bT s = [42, 42])) := Lib.hid (by
              rw [← hq2]
              by_cases e : s = star2B
              · subst e
                rw [show (star2B.toList == [42, 42]) = true from star2B_list ▸ same_strB (b := star2B) rfl]
                rfl
              · rw [show (s.toList == [42, 42]) = false from star2B_list ▸ other_strB (b := star2B) e]
                exact (decide_eq_false (fun h => e (bT_inj h))).symm)
            obtain ⟨X, hX⟩ : ∃ X, wr.heap.size = X := ⟨_, rfl⟩
            have HAX := Lib.hid ((Below.refl wr.heap.size wr).alloc (Nat.le_refl _) (.cells #[.bool q2, .slice none 0 0] 131))
            have HXX := Lib.hid (heap_alloc_new wr (.cells #[.bool q2, .slice none 0 0] 131))
            have HOA := Lib.hid (own_belowG HO.out HAX.out)
            have HNE : Hid ((Value.slice oa P.length oc).ownBlock ≠ some X) := Lib.hid fun e => by have := (HO.out.lt _ e).2; omega
            have HEA : Hid (∀ x ∈ P, PO (wr.alloc (.cells #[.bool q2, .slice none 0 0] 131)) w3.heap.size x ∧ x.2.2.2.length ≤ 60) := Lib.hid fun x hx => ⟨(HE.out x hx).1.below HAX.out, (HE.out x hx).2⟩
            have HBA := Lib.hid (Below.step HB.out HAX.out)
            have HX3 : Hid (w3.heap.size ≤ X) := Lib.hid (by rw [← hX]; exact HB.out.size)
            rw [hX] at HXX
            clear HO HE HB HAX
            go_wp2_with fail
            try rw [hX]
            generalize (wr.alloc (.cells #[.bool q2, .slice none 0 0] 131)) = wa at *
            refine (HEL.out s wa (by have := HY.out; omega)).mono ?_
            rintro e u ⟨hb, hend⟩
            have HXu := Lib.hid ((hb.block _ (lt_of_block HXX.out)).trans HXX.out)
            have HOu := Lib.hid (own_belowG HOA.out hb)
            have HEu : Hid (∀ x ∈ P, PO u w3.heap.size x ∧ x.2.2.2.length ≤ 60) := Lib.hid fun x hx => ⟨(HEA.out x hx).1.below hb, (HEA.out x hx).2⟩
            have HBu := Lib.hid (Below.step HBA.out hb)
            have HSA : Hid (w3.heap.size ≤ wa.heap.size) := Lib.hid HBA.out.size
            have hxf := frozen_of_row _ X 1 _ _ HXu.out
            have hxc := cell_of_row _ X 1 _ _ _ HXu.out
            simp only [List.getElem?_toArray, List.getElem?_cons_zero, List.getElem?_cons_succ] at hxc
            clear hb HXX HOA HEA HBA HEL hX
            rcases hend with ⟨hn, rfl⟩ | ⟨ea, ec, E, hsm, rfl, hEs, hEo, hEe⟩
            · have HF : Hid (parseP (bT p) = ([], 13)) := Lib.hid (by
                have h1 := HD.out
                rw [pts_bad P (partP_none hn), HTL.out] at h1
                rw [HPQ.out, h1])
              have HBS := Lib.hid (HB3.out.trans ((HBu.out.setCell (p := ⟨X, 1, none⟩) HX3.out (.slice none 0 0)).mono HZ3.out))
              clear hn
              go_wp2_with fail
              go_ret2
              exact ⟨HBS.out, .inr ⟨by rw [HF.out]; decide, by rw [HF.out]; rfl⟩⟩
            · have HBS0 : Hid (Below w3.heap.size w3 (u.setCell ⟨X, 1, none⟩ (.slice ea E.length ec))) := Lib.hid (HBu.out.setCell (p := ⟨X, 1, none⟩) HX3.out (.slice ea E.length ec))
              by_cases h0 : s.size = 0
              · have f0 := empty_strB h0
                have HF : Hid (parseP (bT p) = ([], 13)) := Lib.hid (by
                  have h1 := HD.out
                  rw [pts_bad P (partP_empty h0), HTL.out] at h1
                  rw [HPQ.out, h1])
                have HBS := Lib.hid (HB3.out.trans (HBS0.out.mono HZ3.out))
                clear hsm hEs hEo hEe h0
                go_wp2_with fail
                go_ret2
                exact ⟨HBS.out, .inr ⟨by rw [HF.out]; decide, by rw [HF.out]; rfl⟩⟩
              · have f0 := full_strB h0
                have HPY : Hid (partP (bT s) = some (ptOf ((q2, (ea, ec, E)) : MP))) := Lib.hid (by rw [partP_of h0 hsm, ← HQ2.out]; rfl)
                have HES : Hid (E.length ≤ 60) := Lib.hid (by have := HY.out; omega)
                have HEO := Lib.hid (own_lowG hEo HSA.out)
                have HEE : Hid (∀ x ∈ E, EO u w3.heap.size x) := Lib.hid fun x hx => (hEe x hx).low HSA.out
                clear hsm hEs hEo hEe h0
                obtain ⟨v, hv⟩ : ∃ v, u.setCell ⟨X, 1, none⟩ (.slice ea E.length ec) = v := ⟨_, rfl⟩
                have HXv : Hid (v.heap[X]? = some (.cells #[.bool q2, .slice ea E.length ec] 131 (0, 0))) := Lib.hid (by rw [← hv, row_set HXu.out]; rfl)
                have HOv : Hid (v.ownsRow w3.heap.size 131 2 (.slice oa P.length oc) P.length (P.flatMap mpC)) := Lib.hid (by rw [← hv]; exact ownsRow_setCell_other HOu.out (fun e => HNE.out e) _)
                have HPv : Hid (PO v w3.heap.size ((q2, (ea, ec, E)) : MP)) := Lib.hid (by
                  rw [← hv]
                  exact ⟨ownsRow_setCell_other HEO.out (fun e => own_neG HEO.out HXu.out (by decide) e) _, fun x hx => ownsRow_setCell_other (HEE.out x hx) (fun e => own_neG (HEE.out x hx) HXu.out (by decide) e) _⟩)
                have HEv : Hid (∀ x ∈ P, PO v w3.heap.size x ∧ x.2.2.2.length ≤ 60) := Lib.hid fun x hx => by
                  rw [← hv]
                  have h9 := (HEu.out x hx).1
                  exact ⟨⟨ownsRow_setCell_other h9.1 (fun e => own_neG h9.1 HXu.out (by decide) e) _, fun y hy => ownsRow_setCell_other (h9.2 y hy) (fun e => own_neG (h9.2 y hy) HXu.out (by decide) e) _⟩, (HEu.out x hx).2⟩
                rw [hv] at HBS0
                have HVV := Lib.hid hv
                clear HOu HEu HXu HEO HEE hv
                have y0 := cell_of_row _ X 0 _ _ _ HXv.out
                have y1 := cell_of_row _ X 1 _ _ _ HXv.out
                simp only [List.getElem?_toArray, List.getElem?_cons_zero, List.getElem?_cons_succ] at y0 y1
                have D1 := Lib.hid (cells_new_at v v.heap.size rfl #[.bool q2, .slice ea E.length ec] 131 (mpC ((q2, (ea, ec, E)) : MP)) rfl)
                have D2 := Lib.hid (mpC_one ((q2, (ea, ec, E)) : MP))
                have D3 : Hid (P.length + 1 ≤ maxLen) := Lib.hid (by have := HPI.out; have := HLN.out; unfold maxLen; omega)
                have D4 : Hid ((P.length + 1) * 32 ≤ 140737488355328) := Lib.hid (by have := HPI.out; have := HLN.out; omega)
                have HZA := Lib.hid ((Below.refl v.heap.size v).alloc (Nat.le_refl _) (.cells #[.bool q2, .slice ea E.length ec] 131))
                have D5 : Hid (w3.heap.size ≤ (v.alloc (.cells #[.bool q2, .slice ea E.length ec] 131)).heap.size) := Lib.hid (by have := HBS0.out.size; simp; omega)
                have HOa := Lib.hid (own_belowG HOv.out HZA.out)
                have HEa : Hid (∀ x ∈ P ++ [((q2, (ea, ec, E)) : MP)], PO (v.alloc (.cells #[.bool q2, .slice ea E.length ec] 131)) w3.heap.size x ∧ x.2.2.2.length ≤ 60) := Lib.hid fun x hx => by
                  rcases List.mem_append.1 hx with h | h
                  · exact ⟨(HEv.out x h).1.below HZA.out, (HEv.out x h).2⟩
                  · rw [List.mem_singleton] at h; subst h; exact ⟨HPv.out.below HZA.out, HES.out⟩
                have HBa := Lib.hid (HBS0.out.alloc (by have := HBS0.out.size; exact this) (.cells #[.bool q2, .slice ea E.length ec] 131))
                clear HOv HPv HEv HZA HBS0
                go_wp2_with (first | (rw [HVV.out]) | (at_builtin; refine wpList_append_own _ rfl _ _ 94 rfl w3.heap.size 131 iP (.agg #[.bool false, .slice none 0 0]) 2 32 Tryd.underlying94 hiP hzP hyP hbP rfl (by decide) _ _ _ rfl HOa.out ⟨v.heap.size, 0, none⟩ 1 1 (mpC ((q2, (ea, ec, E)) : MP)) rfl rfl D1.out D2.out D3.out D4.out D5.out ?_))
                intro v' w5 hown' hgrow _
                obtain ⟨oa2, oc2, rfl⟩ := own_formG hown'
                have hgt : ∀ k, (Value.slice oa P.length oc).ownBlock = some k → w3.heap.size ≤ k := fun k hk => (HOa.out.lt k hk).1
                have HE3 : Hid (∀ x ∈ P ++ [((q2, (ea, ec, E)) : MP)], PO w5 w3.heap.size x ∧ x.2.2.2.length ≤ 60) := Lib.hid fun x hx => ⟨⟨own_grownG (HEa.out x hx).1.1 HOa.out (by decide) hgrow, fun y hy => own_grownG ((HEa.out x hx).1.2 y hy) HOa.out (by decide) hgrow⟩, (HEa.out x hx).2⟩
                have HB5 := Lib.hid (HBa.out.grown hgrow (by have h9 := HBa.out.size; exact h9) (fun k hk => hgt k hk))
                have hEl : (P ++ [((q2, (ea, ec, E)) : MP)]).length = P.length + 1 := by simp
                have HO3 : Hid (w5.ownsRow w3.heap.size 131 2 (.slice oa2 (P ++ [((q2, (ea, ec, E)) : MP)]).length oc2) (P ++ [((q2, (ea, ec, E)) : MP)]).length ((P ++ [((q2, (ea, ec, E)) : MP)]).flatMap mpC)) := Lib.hid (by rw [hEl, List.flatMap_append, List.flatMap_singleton]; exact hown')
                have HQ3 : Hid (partsP (tl L) = (partsP (tl (L.drop (i + 1)))).map ((P ++ [((q2, (ea, ec, E)) : MP)]).map ptOf ++ ·)) := Lib.hid (HD.out.trans (pts_next P HPY.out))
                clear hown' hgrow hgt
                go_wp2_with fail
                go_roundw
                case rel => exact ⟨i + 1, P ++ [((q2, (ea, ec, E)) : MP)], oa2, oc2, by omega, by go_num, by rw [hEl], by rw [hEl, HPI.out], HO3.out, HE3.out, HB5.out, HQ3.out⟩
                case measure => simp [intOf]; omega
          · have m1 : ¬ (i : Int) < (L.length : Int) := by omega
            have HF : Hid (parseP (bT p) = (P.map ptOf, 0)) := Lib.hid (by
              have h1 := HQ.out
              rw [List.drop_eq_nil_of_le (by omega), HTL.out] at h1
              rw [HPQ.out, h1]
              simp [tl, partsP])
            have HBF := Lib.hid (HB3.out.trans (HB.out.mono HZ3.out))
            have HPT : Hid (QO wr w.heap.size oa oc P) := Lib.hid ⟨own_lowG HO.out HZ3.out, fun x hx => (HE.out x hx).1.low HZ3.out, by have := HPI.out; have := HLN.out; omega, fun x hx => (HE.out x hx).2⟩
            go_wp2_with fail
            go_ret2
            exact ⟨HBF.out, .inl ⟨by rw [HF.out], oa, oc, P, rfl, HPT.out, by rw [HF.out]⟩⟩
    · have h1 : Lib.hasPrefix p.data.toList (⟨#[47]⟩ : ByteArray).data.toList = false := by
        show Lib.hasPrefix (bT p) [47] = false
        cases hb : bT p with
        | nil => rfl
        | cons c l =>
          have : c ≠ 47 := fun e => hp ⟨l, by rw [hb, e]⟩
          simp [Lib.hasPrefix, List.isPrefixOf]
          exact fun e => this e.symm
      rw [h1] at HCP
      have HF : Hid (parseP (bT p) = ([], 13)) := Lib.hid (by
        unfold parseP
        rw [if_neg (by rw [bT_length]; omega)]
        cases hb : bT p with
        | nil => rfl
        | cons c l =>
          have : c ≠ 47 := fun e => hp ⟨l, by rw [hb, e]⟩
          simp [this])
      clear h1 hp
      go_enter Tryd.func58, Tryd.ntmps58
      go_wp2_with fail
      refine HCP.out.mono ?_
      rintro e w1 ⟨rfl, rfl⟩
      go_wp2_with fail
      go_ret2
      exact ⟨Below.refl _ _, .inr ⟨by rw [HF.out]; decide, by rw [HF.out]; rfl⟩⟩
end Go.Proofs.YtokckcmkbnhhhaaDoor
