/- glob.Skips. -/
import Derived.Test.YtokckcmkbnhhhaaDoorGlobMatch
namespace Go.Proofs.YtokckcmkbnhhhaaDoor
open Go.RowKit Plain
set_option linter.unusedVariables false
set_option linter.unusedSimpArgs false
theorem sat_takeG {α : Type} {n : Nat} {c : α → List Value} {w : World} {a : Option Addr} {l : List α} (h : SAt n c w a l) (k : Nat) : SAt n c w a (l.take k) := fun i hi => by
  have hi' : i < l.length := by rw [List.length_take] at hi; omega
  obtain ⟨g, off, e, hg, hr⟩ := h i hi'
  refine ⟨g, off, e, hg, ?_⟩
  rw [List.getElem_take]
  exact hr
/-- rules read so far, and what is still to be read -/
def rcat (A : List (List Pt)) (x : List (List Pt) × Int) : List (List Pt) × Int := if x.2 ≠ 0 then ([], x.2) else (A ++ x.1, 0)
theorem rulesP_bad : ∀ {l : List T}, (rulesP l).2 ≠ 0 → (rulesP l).1 = []
  | [], h => rfl
  | r :: l, h => by
    unfold rulesP at h ⊢
    split
    · rfl
    · rename_i h1
      rw [if_neg h1] at h
      split
      · rfl
      · rename_i h2
        rw [if_neg h2] at h
        exact absurd rfl h
theorem rcat_nil (l : List T) : rcat [] (rulesP l) = rulesP l := by
  unfold rcat
  split
  · rename_i h
    exact Prod.ext (rulesP_bad h).symm rfl
  · rename_i h
    exact Prod.ext (List.nil_append _) (by simpa using Eq.symm (Classical.not_not.1 h))
theorem rcat_bad (A : List (List Pt)) {r : T} {l : List T} (h : (parseP (ruleT r)).2 ≠ 0) : rcat A (rulesP (r :: l)) = ([], (parseP (ruleT r)).2) := by
  have e : rulesP (r :: l) = ([], (parseP (ruleT r)).2) := by rw [rulesP, if_pos h]
  rw [e, rcat, if_pos h]
theorem rcat_next (A : List (List Pt)) {r : T} {l : List T} (h : (parseP (ruleT r)).2 = 0) : rcat A (rulesP (r :: l)) = rcat (A ++ [(parseP (ruleT r)).1]) (rulesP l) := by
  rw [rulesP, if_neg (by simp [h])]
  by_cases h2 : (rulesP l).2 ≠ 0
  · rw [if_pos h2, rcat, rcat, if_pos h2, if_pos h2]
  · rw [if_neg h2, rcat, rcat, if_neg h2, if_neg (by simp)]
    simp
theorem rulesP_nil2 (A : List (List Pt)) : rcat A (rulesP []) = (A, 0) := by simp [rcat, rulesP]
abbrev QD := Option Addr × Nat × List MP
def qdV (d : QD) : Value := .slice d.1 d.2.2.length d.2.1
/-- the row of the rules' parts -/
def rowQ (D : List QD) (n : Nat) : Array Value := (D.map qdV ++ List.replicate (n - D.length) (Value.slice none 0 0)).toArray
theorem rowQ_size {D : List QD} {n : Nat} (h : D.length ≤ n) : (rowQ D n).size = n := by simp [rowQ]; omega
theorem rowQ_nil (n : Nat) : Array.replicate n (Value.slice none 0 0) = rowQ [] n := by
  unfold rowQ
  simp
theorem rowQ_set {D : List QD} {n : Nat} (h : D.length < n) (d : QD) : (rowQ D n).setIfInBounds D.length (qdV d) = rowQ (D ++ [d]) n := by
  have e : n - D.length = (n - (D ++ [d]).length) + 1 := by simp; omega
  unfold rowQ
  rw [e, List.replicate_succ]
  simp only [List.setIfInBounds_toArray]
  congr 1
  rw [show D.length = (D.map qdV).length by simp, List.set_append_right _ _ (Nat.le_refl _)]
  simp
theorem rowQ_get {D : List QD} {n i : Nat} (h : i < D.length) : (rowQ D n)[i]? = some (qdV D[i]) := by
  unfold rowQ
  simp only [List.getElem?_toArray]
  rw [List.getElem?_append_left (by simp; exact h), List.getElem?_map, List.getElem?_eq_getElem h]
  rfl
theorem info_pts : (Tryd.prog.info? 94).map (fun i => (i.zero, i.size, i.bytes)) = some (some (.slice none 0 0), 1, 24) := by kernel_rfl
set_option maxRecDepth 100000 in
theorem run_make_pts (n : Nat) (hn : n ≤ 1099511627776) (u : World) : (Instr.makeSlice 93 (.int .i64 (n : Int)) (.int .i64 (n : Int))).run Tryd.prog u = .ok (.slice (some ⟨u.heap.size, 0, none⟩) n n) (u.alloc (.cells (Array.replicate n ((.slice none 0 0 : Value))) 94)) := by
  obtain ⟨i, hi, hz, hs, hb⟩ := info_parts info_pts
  have := run_make (P := Tryd.prog) u 93 94 i (.slice none 0 0) Tryd.underlying93 hi hz .i64 .i64 (n : Int) (n : Int) (by omega) (by omega) (by rw [hb]; omega) (by omega)
  rw [this, hs]
  have e : ((n : Int)).toNat = n := by omega
  rw [e]
  congr 3
  simp only [madeCells, Nat.mul_one]
  apply Array.ext
  · simp
  · intro k h1 h2
    simp [Value.cells, Nat.mod_one]
theorem ruleT_of (s : ByteArray) : Lib.trimPrefix s.data.toList (⟨#[33]⟩ : ByteArray).data.toList = ruleT (bT s) := by
  show Lib.trimPrefix (bT s) [33] = _
  unfold Lib.trimPrefix Lib.hasPrefix
  cases h : bT s with
  | nil => rfl
  | cons c l =>
    by_cases hc : c = 33
    · subst hc; simp [List.isPrefixOf, ruleT]
    · have : (33 == c) = false := by rw [beq_eq_false_iff_ne]; exact fun e => hc e.symm
      simp only [List.isPrefixOf, this, Bool.false_and, Bool.false_eq_true, if_false]
      unfold ruleT
      split
      · rename_i heq; injection heq with e _; exact absurd e hc
      · rfl
theorem ruleB_of (s : ByteArray) : Lib.hasPrefix s.data.toList (⟨#[33]⟩ : ByteArray).data.toList = ruleB (bT s) := by
  show Lib.hasPrefix (bT s) [33] = _
  unfold Lib.hasPrefix
  cases h : bT s with
  | nil => rfl
  | cons c l =>
    by_cases hc : c = 33
    · subst hc; simp [List.isPrefixOf, ruleB]
    · have : (33 == c) = false := by rw [beq_eq_false_iff_ne]; exact fun e => hc e.symm
      simp only [List.isPrefixOf, this, Bool.false_and]
      unfold ruleB
      split
      · rename_i heq; injection heq with e _; exact absurd e hc
      · rfl
theorem ruleT_le (s : T) : (ruleT s).length ≤ s.length := by
  unfold ruleT
  split
  · simp
  · exact Nat.le_refl _
set_option maxRecDepth 100000 in
set_option maxHeartbeats 16000000 in
theorem gskips_any (a : Option Addr) (cap : Nat) (l : List ByteArray) (p : ByteArray) (m : Int) (w : World) (h : SAt 1 sC w a l) (hl : l.length ≤ 9223372036854775807) (hz : ∀ y ∈ l, y.size ≤ 9223372036854775807) (hm : MaxL m w) (hT : Tabs w) (hp : p.size < 4294967281) :
    Calls Tryd.prog 34 #[.slice a l.length cap, .string p] w fun e w' => e = .returned (.tuple #[.bool (skipsP (tl l) (bT p)).1, .int .i64 (skipsP (tl l) (bT p)).2]) ∧ Below w.heap.size w w' := by
  by_cases h20 : 20 < l.length
  · have g1 : (20 : Int) < (l.length : Int) := by omega
    have HF : Hid (skipsP (tl l) (bT p) = (false, 2)) := Lib.hid (by unfold skipsP; rw [if_pos (by rw [tl_length]; exact h20)])
    clear h hz hm hT h20
    go_enter Tryd.func34, Tryd.ntmps34
    go_wp2_with fail
    go_ret2
    exact ⟨by rw [HF.out]; rfl, Below.refl _ _⟩
  · have g1 : ¬ (20 : Int) < (l.length : Int) := by omega
    have HS := Lib.hid h
    have HLE : Hid (l.length ≤ 20) := Lib.hid (by omega)
    have HPA := Lib.hid fun (s : ByteArray) (W : World) (hb : Below w.heap.size w W) (hs : s.size ≤ 9223372036854775807) => gparse_any s m W (hm.below hb) (hT.below hb) hs
    have HSP := Lib.hid fun (W : World) (hb : Below w.heap.size w W) => split_any p m W hp (hm.below hb) (hT.below hb)
    have HZ := Lib.hid hz
    have hmk := run_make_pts l.length (by omega)
    have HSK : Hid (skipsP (tl l) (bT p) = if (rulesP (tl l)).2 ≠ 0 then (false, (rulesP (tl l)).2) else if (splP ck (bT p)).2 ≠ 0 then (false, (splP ck (bT p)).2) else (anyN (tl l) (rulesP (tl l)).1 (splP ck (bT p)).1 (splP ck (bT p)).1.length, 0)) := Lib.hid (by unfold skipsP; rw [if_neg (by rw [tl_length]; omega)])
    have HAL := Lib.hid ((Below.refl w.heap.size w).alloc (Nat.le_refl _) (.cells (Array.replicate l.length (.slice none 0 0)) 94))
    have HN0 : Hid ((w.alloc (.cells (Array.replicate l.length (.slice none 0 0)) 94)).heap[w.heap.size]? = some (.cells (rowQ [] l.length) 94 (0, 0))) := Lib.hid (by rw [← rowQ_nil]; exact heap_alloc_new w _)
    clear h hz hm hT h20
    go_enter Tryd.func34, Tryd.ntmps34
    go_wp2_with fail
    generalize (w.alloc (.cells (Array.replicate l.length (.slice none 0 0)) 94)) = w1 at *
    clear hmk
    go_loopw [25] (fun iv wr => ∃ (i : Nat) (D : List QD), i ≤ l.length ∧ iv = .int .i64 (i : Int) ∧ Hid (D.length = i) ∧ Hid (wr.heap[w.heap.size]? = some (.cells (rowQ D l.length) 94 (0, 0))) ∧ Hid (∀ d ∈ D, QO wr (w.heap.size + 1) d.1 d.2.1 d.2.2) ∧ Hid (Below w.heap.size w wr) ∧ Hid (rulesP (tl l) = rcat (D.map fun d => d.2.2.map ptOf) (rulesP (tl (l.drop i))))) (fun iv _ => l.length - (intOf iv).toNat)
    case atStart => exact ⟨0, [], by omega, rfl, Lib.hid rfl, HN0, Lib.hid (by simp), HAL, Lib.hid (by rw [List.map_nil, rcat_nil]; rfl)⟩
    case round =>
      obtain ⟨i, D, hi, rfl, HDL, HN, HD, HB, HQ⟩ := hrel
      clear HN0 HAL
      by_cases hlt : i < l.length
      · have m1 : (i : Int) < (l.length : Int) := by omega
        obtain ⟨g, off, rfl, hcell⟩ := str_cell (HS.out.below HB.out) i hlt
        have HSZ := Lib.hid (HZ.out _ (List.getElem_mem hlt))
        have HQD : Hid (rulesP (tl l) = rcat (D.map fun d => d.2.2.map ptOf) (rulesP (bT l[i] :: tl (l.drop (i + 1))))) := Lib.hid (by
          have := HQ.out
          rw [List.drop_eq_getElem_cons hlt] at this
          exact this)
        clear HQ
        generalize l[i] = s at *
        have HTP := Lib.hid (Tryd.strings_TrimPrefix s ⟨#[33]⟩ wr)
        rw [ruleT_of s] at HTP
        obtain ⟨t, ht⟩ : ∃ t : ByteArray, ⟨(ruleT (bT s)).toArray⟩ = t := ⟨_, rfl⟩
        have HTT : Hid (bT t = ruleT (bT s)) := Lib.hid (ht ▸ bT_mk _)
        rw [ht] at HTP
        have HTZ : Hid (t.size ≤ 9223372036854775807) := Lib.hid (by
          have h1 := ruleT_le (bT s)
          rw [← HTT.out, bT_length, bT_length] at h1
          have := HSZ.out
          omega)
        have HPQ := Lib.hid (HPA.out t wr HB.out HTZ.out)
        clear ht
        go_wp2_with fail
        refine HTP.out.mono ?_
        rintro e w2 ⟨rfl, rfl⟩
        obtain ⟨wr, rfl⟩ : ∃ wr, wr = w2 := ⟨_, rfl⟩
        go_wp2_with fail
        refine HPQ.out.mono ?_
        rintro e u ⟨hb, hend⟩
        have HBU := Lib.hid (Below.step HB.out hb)
        have HNU := Lib.hid ((hb.block _ (lt_of_block HN.out)).trans HN.out)
        have HDU : Hid (∀ d ∈ D, QO u (w.heap.size + 1) d.1 d.2.1 d.2.2) := Lib.hid fun d hd => (HD.out d hd).below hb
        have HNL : Hid (w.heap.size + 1 ≤ wr.heap.size) := Lib.hid (lt_of_block HN.out)
        clear hb HTP HPQ HN HD HB
        rcases hend with ⟨h0, qa, qc, L, rfl, hq1, hq2⟩ | ⟨h0, rfl⟩
        · have HQO := Lib.hid (hq1.low HNL.out)
          have HQN : Hid (rulesP (tl l) = rcat ((D ++ [((qa, qc, L) : QD)]).map fun d => d.2.2.map ptOf) (rulesP (tl (l.drop (i + 1))))) := Lib.hid (by
            rw [HQD.out, rcat_next _ (by rw [← HTT.out]; exact h0), ← HTT.out, ← hq2, List.map_append]
            rfl)
          have hfz := frozen_of_row _ w.heap.size i _ _ HNU.out
          have hcl : ∃ v, u.cell? ⟨w.heap.size, i, none⟩ = some v := by
            rw [cell_of_row _ _ _ _ _ _ HNU.out]
            exact ⟨_, Array.getElem?_eq_getElem (by rw [rowQ_size (by have := HDL.out; omega)]; exact hlt)⟩
          obtain ⟨cv, hcv⟩ := hcl
          have HROW : Hid ((u.setCell ⟨w.heap.size, i, none⟩ (.slice qa L.length qc)).heap[w.heap.size]? = some (.cells (rowQ (D ++ [((qa, qc, L) : QD)]) l.length) 94 (0, 0))) := Lib.hid (by
            rw [row_set HNU.out]
            have hd := HDL.out
            rw [← rowQ_set (by omega) ((qa, qc, L) : QD), hd]
            rfl)
          have HDS : Hid (∀ d ∈ D ++ [((qa, qc, L) : QD)], QO (u.setCell ⟨w.heap.size, i, none⟩ (.slice qa L.length qc)) (w.heap.size + 1) d.1 d.2.1 d.2.2) := Lib.hid fun d hd => by
            rcases List.mem_append.1 hd with h | h
            · exact (HDU.out d h).set (Nat.lt_succ_self _) _
            · rw [List.mem_singleton] at h
              subst h
              exact HQO.out.set (Nat.lt_succ_self _) _
          have HBS := Lib.hid (HBU.out.setCell (p := ⟨w.heap.size, i, none⟩) (Nat.le_refl _) (.slice qa L.length qc))
          clear hq1 hq2 h0
          go_wp2_with fail
          go_roundw
          case rel => exact ⟨i + 1, D ++ [((qa, qc, L) : QD)], by omega, by go_num, Lib.hid (by rw [List.length_append, HDL.out]; rfl), HROW, HDS, HBS, HQN⟩
          case measure => simp [intOf]; omega
        · have HRB : Hid (rulesP (tl l) = ([], (parseP (bT t)).2)) := Lib.hid (by
            rw [HQD.out, rcat_bad _ (by rw [← HTT.out]; exact h0), HTT.out])
          have HF : Hid (skipsP (tl l) (bT p) = (false, (parseP (bT t)).2)) := Lib.hid (by
            rw [HSK.out, HRB.out, if_pos h0])
          clear HRB
          generalize (parseP (bT t)).2 = c at *
          have f1 : (c != 0) = true := by simpa using h0
          clear h0 HSK
          go_wp2_with fail
          go_ret2
          exact ⟨by rw [HF.out]; rfl, HBU.out⟩
      · have m1 : ¬ (i : Int) < (l.length : Int) := by omega
        obtain rfl : i = l.length := by omega
        have HRP : Hid (rulesP (tl l) = (D.map fun d => d.2.2.map ptOf, 0)) := Lib.hid (by
          have := HQ.out
          rw [List.drop_length] at this
          rw [this]
          exact rulesP_nil2 _)
        have HSQ : Hid (skipsP (tl l) (bT p) = if (splP ck (bT p)).2 ≠ 0 then (false, (splP ck (bT p)).2) else (anyN (tl l) (D.map fun d => d.2.2.map ptOf) (splP ck (bT p)).1 (splP ck (bT p)).1.length, 0)) := Lib.hid (by
          rw [HSK.out, HRP.out]
          rfl)
        clear HQ HRP HSK
        go_wp2_with fail
        refine (HSP.out _ HB.out).mono ?_
        rintro e v ⟨hb, hend⟩
        have HBV := Lib.hid (Below.step HB.out hb)
        have HNV := Lib.hid ((hb.block _ (lt_of_block HN.out)).trans HN.out)
        have HDV : Hid (∀ d ∈ D, QO v (w.heap.size + 1) d.1 d.2.1 d.2.2) := Lib.hid fun d hd => (HD.out d hd).below hb
        clear hb HSP HN HD HB
        rcases hend with ⟨k0, b, cq, S, rfl, hs, hs2, hs3, hs4, hs5⟩ | ⟨k0, rfl⟩
        · have HF : Hid (skipsP (tl l) (bT p) = (anyN (tl l) (D.map fun d => d.2.2.map ptOf) (tl S) S.length, 0)) := Lib.hid (by rw [HSQ.out, if_neg (by simp [k0]), ← hs2, tl_length])
          have HSS := Lib.hid hs
          have HSZ : Hid (∀ y ∈ S, y.size ≤ 4294967296) := Lib.hid hs5
          have HS8 : Hid (S.length ≤ 8) := Lib.hid hs4
          have HCQ : Hid (S.length ≤ cq) := Lib.hid hs3
          clear hs hs2 hs3 hs4 hs5 k0 HSQ
          go_wp2_with fail
          go_loopw [54] (fun nv wr => ∃ n : Nat, n ≤ S.length ∧ nv = .int .i64 (n : Int) ∧ Hid (Below v.heap.size v wr) ∧ Hid (anyN (tl l) (D.map fun d => d.2.2.map ptOf) (tl S) n = false)) (fun nv _ => S.length - (intOf nv).toNat)
          case atStart => exact ⟨0, by omega, rfl, Lib.hid (Below.refl _ _), Lib.hid rfl⟩
          case round =>
            obtain ⟨n, hn, rfl, HBR, HAN⟩ := hrel
            by_cases hlt : n < S.length
            · have m2 : (n : Int) < (S.length : Int) := by omega
              have HLT := Lib.hid hlt
              obtain ⟨wo, rfl⟩ : ∃ wo : World, wo = wr := ⟨_, rfl⟩
              go_wp2_with fail
              go_loopw [14, 59] (fun ov iv wr => ∃ i : Nat, i ≤ l.length ∧ iv = .int .i64 (i : Int) ∧ ov = .bool (outN (tl l) (D.map fun d => d.2.2.map ptOf) ((tl S).take (n + 1)) i) ∧ Hid (Below v.heap.size v wr)) (fun _ iv _ => l.length - (intOf iv).toNat)
              case atStart => exact ⟨0, by omega, rfl, rfl, HBR⟩
              case round =>
                obtain ⟨i, hi2, rfl, rfl, HBI⟩ := hrel
                by_cases hlt2 : i < l.length
                · have m3 : (i : Int) < (l.length : Int) := by omega
                  have hid : i < D.length := by have := HDL.out; omega
                  have HNI := Lib.hid ((HBI.out.block _ (lt_of_block HNV.out)).trans HNV.out)
                  have q0 := cell_of_row _ _ i _ _ _ HNI.out
                  rw [rowQ_get hid] at q0
                  have HQI := Lib.hid ((HDV.out D[i] (List.getElem_mem hid)).below HBI.out)
                  have HDG : Hid ((D.map fun d => d.2.2.map ptOf).getD i [] = D[i].2.2.map ptOf) := Lib.hid (by
                    rw [List.getD_eq_getElem?_getD, List.getElem?_map, List.getElem?_eq_getElem hid]; rfl)
                  have HOS : Hid (outN (tl l) (D.map fun d => d.2.2.map ptOf) ((tl S).take (n + 1)) (i + 1) = if pathP (D[i].2.2.map ptOf) ((tl S).take (n + 1)) = true then !ruleB ((tl l).getD i []) else outN (tl l) (D.map fun d => d.2.2.map ptOf) ((tl S).take (n + 1)) i) := Lib.hid (by rw [outN, HDG.out])
                  have HRL : Hid ((tl l).getD i [] = bT l[i]) := Lib.hid (by
                    rw [List.getD_eq_getElem?_getD, tl, List.getElem?_map, List.getElem?_eq_getElem hlt2]; rfl)
                  rw [HRL.out] at HOS
                  clear HDG HRL
                  generalize D[i] = d at *
                  obtain ⟨qa, qc, L⟩ := d
                  unfold qdV at q0
                  have HTK : Hid (tl (S.take (n + 1)) = (tl S).take (n + 1)) := Lib.hid (by unfold tl; rw [List.map_take])
                  have hst : (S.take (n + 1)).length = n + 1 := by rw [List.length_take]; omega
                  have HPT := Lib.hid (gpath_any L qa qc (S.take (n + 1)) b cq wr HQI.out.at (sat_takeG (HSS.out.below HBI.out) _) (by have h : L.length ≤ 61 := HQI.out.2.2.1; omega) (by have h : (S.take (n + 1)).length = n + 1 := hst; have := HS8.out; have := HLT.out; omega) (fun x hx => by have h : x.2.2.2.length ≤ 60 := HQI.out.2.2.2 x hx; omega) (fun x hx => by have := HSZ.out x (List.mem_of_mem_take hx); omega))
                  rw [hst, HTK.out] at HPT
                  have c1 : (n : Int) + 1 ≤ (cq : Int) := by have := HCQ.out; omega
                  have c2 : IntKind.i64.wrap ((n : Int) + 1) = (n : Int) + 1 := by have := HS8.out; rw [IntKind.wrap_i64]; omega
                  have c3 : ((n : Int) + 1).toNat = n + 1 := by omega
                  have c4 : (0 : Int) ≤ (n : Int) + 1 := by omega
                  obtain ⟨g, off, rfl, hcell⟩ := str_cell (HS.out.below (Below.trans HBV.out (HBI.out.mono HBV.out.size))) i hlt2
                  have HHP := fun wx => Tryd.strings_HasPrefix l[i] ⟨#[33]⟩ wx
                  rw [ruleB_of] at HHP
                  have HHQ := Lib.hid HHP
                  have HCL : Hid (∀ wx, Below v.heap.size v wx → wx.cell? ⟨g, off + i, none⟩ = some (.string l[i])) := Lib.hid fun wx hb => by
                    obtain ⟨g', off', e, hc⟩ := str_cell (HS.out.below (Below.trans HBV.out (hb.mono HBV.out.size))) i hlt2
                    cases e
                    exact hc
                  clear HHP hcell hst HTK HQI
                  generalize l[i] = s at *
                  go_wp2_with fail
                  refine HPT.out.mono ?_
                  rintro e u ⟨rfl, hb⟩
                  have HBU := Lib.hid (Below.step HBI.out hb)
                  have hcl2 := HCL.out u HBU.out
                  clear hb HPT HCL
                  generalize pathP (List.map ptOf L) ((tl S).take (n + 1)) = r at *
                  generalize hrb : ruleB (bT s) = rb at *
                  clear hrb
                  generalize outN (tl l) (D.map fun d => d.2.2.map ptOf) ((tl S).take (n + 1)) i = o at *
                  cases r with
                  | true =>
                    go_wp2_with fail
                    refine (HHQ.out _).mono ?_
                    rintro e u2 ⟨rfl, rfl⟩
                    go_wp2_with fail
                    go_roundw
                    case rel => exact ⟨i + 1, by omega, by go_num, by rw [HOS.out]; rfl, HBU⟩
                    case measure => simp [intOf]; omega
                  | false =>
                    go_wp2_with fail
                    go_roundw
                    case rel => exact ⟨i + 1, by omega, by go_num, by rw [HOS.out]; rfl, HBU⟩
                    case measure => simp [intOf]; omega
                · have m3 : ¬ (i : Int) < (l.length : Int) := by omega
                  obtain rfl : i = l.length := by omega
                  have HAS : Hid (anyN (tl l) (D.map fun d => d.2.2.map ptOf) (tl S) (n + 1) = outN (tl l) (D.map fun d => d.2.2.map ptOf) ((tl S).take (n + 1)) l.length) := Lib.hid (by
                    rw [anyN, HAN.out, Bool.false_or, tl_length])
                  generalize outN (tl l) (D.map fun d => d.2.2.map ptOf) ((tl S).take (n + 1)) l.length = o at *
                  cases o with
                  | true =>
                    have HAE : Hid (anyN (tl l) (D.map fun d => d.2.2.map ptOf) (tl S) S.length = true) := Lib.hid (by
                      have hmono : ∀ k, anyN (tl l) (D.map fun d => d.2.2.map ptOf) (tl S) (n + 1 + k) = true := fun k => by
                        induction k with
                        | zero => exact HAS.out
                        | succ k ih => show anyN _ _ _ (n + 1 + k + 1) = true; rw [anyN, ih]; rfl
                      have := hmono (S.length - (n + 1))
                      rwa [show n + 1 + (S.length - (n + 1)) = S.length by omega] at this)
                    go_wp2_with fail
                    go_ret2
                    exact ⟨by rw [HF.out, HAE.out]; rfl, Below.trans HBV.out (HBI.out.mono HBV.out.size)⟩
                  | false =>
                    have m4 : (n : Int) < 8 := by have := HLT.out; have := HS8.out; omega
                    go_wp2_with fail
                    go_roundw
                    case rel => exact ⟨n + 1, by have := HLT.out; omega, by go_num, HBI, HAS⟩
                    case measure => have := HLT.out; simp [intOf]; omega
            · have m2 : ¬ (n : Int) < (S.length : Int) := by omega
              obtain rfl : n = S.length := by omega
              go_wp2_with fail
              go_ret2
              exact ⟨by rw [HF.out, HAN.out]; rfl, Below.trans HBV.out (HBR.out.mono HBV.out.size)⟩
        · have HF : Hid (skipsP (tl l) (bT p) = (false, (splP ck (bT p)).2)) := Lib.hid (by rw [HSQ.out, if_pos k0])
          clear HSQ
          generalize (splP ck (bT p)).2 = c at *
          have f1 : (c != 0) = true := by simpa using k0
          clear k0
          go_wp2_with fail
          go_ret2
          exact ⟨by rw [HF.out]; rfl, HBV.out⟩
end Go.Proofs.YtokckcmkbnhhhaaDoor
