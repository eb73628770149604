/- fetch.Texts: the records of the blobs, in pieces of 1024 bytes; or a fault. -/
import Derived.Test.YtpfmfigommmjiaaDoorChunkSeq
import Derived.Test.YtpfmfigommmjiaaDoorJournalW
import Derived.Test.YtpfmfigommmjiaaDoorPackId
import Derived.Test.YtpfmfigommmjiaaDoorNumOut
import Derived.Test.YtpfmfigommmjiaaDoorStrs
import Derived.Maps.AppendAt
namespace Go.Proofs.YtpfmfigommmjiaaDoor
open Go.RowKit Plain
set_option linter.unusedVariables false
set_option linter.unusedSimpArgs false
attribute [local go_sem] Oper.semAt_some
def blN (b : Bl) : List Nat := b.1.toNat :: strN b.2
def pcsS (T : List Nat) : List ByteArray := (pcsT T).map strOf
def BadT (l : List Bl) : Prop := (∃ b ∈ l, pcode b ≠ 0 ∨ 4096 < b.2.size + 1) ∨ ∃ k o, Frms idf ((l.take k).map blN) o ∧ 2048000 < o.length
def TxEnd (w0 : World) (l : List Bl) (e : Ending) (w : World) : Prop :=
  ((∃ (T : List Nat) (oa : Option Addr) (oc : Nat), Frms idf (l.map blN) T ∧ (∀ c ∈ T, c < 256) ∧ (∀ b ∈ l, pcode b = 0) ∧ T.length ≤ 2048000 ∧ e = .returned (.tuple #[.slice oa (nP T.length) oc, .int .i64 0]) ∧ w.ownsRow w0.heap.size 9 1 (.slice oa (nP T.length) oc) (nP T.length) ((pcsS T).flatMap sC)) ∨ (∃ c : Nat, c ≠ 0 ∧ BadT l ∧ e = .returned (.tuple #[.slice none 0 0, .int .i64 (c : Int)]))) ∧ Below w0.heap.size w0 w
theorem list8T {l : List Nat} (h : l.length = 8) : ∃ d0 d1 d2 d3 d4 d5 d6 d7, l = [d0, d1, d2, d3, d4, d5, d6, d7] := by
  match l, h with
  | [d0, d1, d2, d3, d4, d5, d6, d7], _ => exact ⟨_, _, _, _, _, _, _, _, rfl⟩
theorem leavesM_ret2 {F : Fence} {n : Nat} {P : Program} {fn : Func} {t u : Tmp} {R : Ending → World → Prop} {a : Act} {w : World} (hr : fn.results = #[.tmp t, .tmp u]) (hd : a.defers = []) (h : R (.returned (.tuple #[a.tmps.getD t undef, a.tmps.getD u undef])) w) : bodyPostM F n P fn R .ret a w := by
  show LeavesInM F n P fn a.tmps R a.defers .returning w
  rw [hd]
  exact ⟨_, results_tmp2 hr _ _ _, h⟩
theorem own_cellT {w : World} {base g c : Nat} {T : TypeId} {o : List Nat} (h : w.ownsRow base T 1 (.slice (some ⟨g, 0, none⟩) o.length c) o.length (o.map bV)) (j : Nat) (hj : j < o.length) : w.cell? ⟨g, j, none⟩ = some (bV o[j]) := by
  rcases h.2 with ⟨h0, _⟩ | ⟨g2, cap, cur, h0, _, hg, _, _, _, h6⟩
  · cases h0
  · injection h0 with h0 _ _
    injection h0 with h0
    injection h0 with h0 _ _
    subst h0
    rw [cell_of_row _ _ _ _ _ _ hg]
    have h7 : (cur.toList.take (o.length * 1))[j]? = (o.map bV)[j]? := by rw [h6]
    rw [List.getElem?_take, if_pos (by omega), List.getElem?_map, List.getElem?_eq_getElem hj] at h7
    rw [← Array.getElem?_toList, h7]
    rfl
set_option maxRecDepth 100000 in
set_option maxHeartbeats 8000000 in
theorem texts_any (a : Option Addr) (cap : Nat) (l : List Bl) (w : World) (hl : SAt 2 blC w a l) (hn : l.length ≤ 9223372036854775807) :
    Calls Tryd.prog 5 #[.slice a l.length cap] w (TxEnd w l) := by
  obtain ⟨i0, hi0, hz0, hz1, hz2⟩ := info_parts info_byte
  obtain ⟨j0, hj0, hy0, hy1, hy2⟩ := info_parts info_str
  have HL := Lib.hid hl
  clear hl
  refine callsIn_wide.1 (callsIn_of_wp_marks (n := 9) Tryd.func5 rfl trivial (wpIn_wide.2 ?_) rfl)
  simp only [Tryd.ntmps5, List.size_toArray, List.length_cons, List.length_nil, Nat.reduceAdd, Nat.reduceSub, Array.replicate_succ, Array.replicate_zero, List.push_toArray, List.append_toArray, List.nil_append, List.cons_append]
  go_wp2_with fail
  go_loopw [4, 15] (fun ov iv wr => ∃ (k : Nat) (o : List Nat) (oa : Option Addr) (oc : Nat), k ≤ l.length ∧ iv = .int .i64 (k : Int) ∧ ov = .slice oa o.length oc ∧ Frms idf ((l.take k).map blN) o ∧ (∀ c ∈ o, c < 256) ∧ (∀ b ∈ l.take k, pcode b = 0) ∧ o.length ≤ 2048000 ∧ wr.ownsRow w.heap.size 5 1 (.slice oa o.length oc) o.length (o.map bV) ∧ Below w.heap.size w wr) (fun _ iv _ => l.length - (intOf iv).toNat)
  case atStart => exact ⟨0, [], none, 0, Nat.zero_le _, rfl, rfl, .nil, by simp, by simp, by simp, World.ownsRow_nil _ _ _ _, Below.refl _ _⟩
  case round =>
    obtain ⟨k, o, oa, oc, hk, rfl, rfl, hfr, hlt256, hpk, hol, hown, hbx⟩ := hrel
    have HFR := Lib.hid hfr
    have HOLT := Lib.hid hlt256
    have HPK := Lib.hid hpk
    have HOWN := Lib.hid hown
    have HBX := Lib.hid hbx
    clear hfr hlt256 hpk hown hbx
    by_cases hlt : k < l.length
    · have kk : (k : Int) < (l.length : Int) := by omega
      obtain ⟨g, off, rfl, hg, hr⟩ := (HL.out.below HBX.out) k hlt
      have htk : l.take (k + 1) = l.take k ++ [l[k]] := List.take_succ_eq_append_getElem hlt
      have hmem := List.getElem_mem hlt
      generalize l[k] = bl at *
      obtain ⟨c, s⟩ := bl
      have HTK := Lib.hid htk
      have HMEM := Lib.hid hmem
      have r0 : wr.cell? ⟨g, off + k * 2, none⟩ = some (.int .i64 c) := hr 0 _ rfl
      have r1 : wr.cell? ⟨g, off + k * 2 + 1, none⟩ = some (.string s) := hr 1 _ rfl
      have HLT := Lib.hid hlt
      have hna := heap_alloc_new wr (.cells #[.int .i64 c, .string s] 28)
      have HBA := Lib.hid ((Below.refl wr.heap.size wr).alloc (Nat.le_refl _) (.cells #[.int .i64 c, .string s] 28))
      have HNA := Lib.hid hna
      have a0 := cell_of_row _ _ 0 _ _ _ hna
      have a1 := cell_of_row _ _ 1 _ _ _ hna
      simp only [List.getElem?_toArray, List.getElem?_cons_succ, List.getElem?_cons_zero] at a0 a1
      clear htk hmem hr hg hna hlt
      go_wp2_with fail
      refine (pid_any (c, s) _).mono ?_
      rintro e w5 ⟨rfl, hb5⟩
      obtain ⟨d0, d1, d2, d3, d4, d5, d6, d7, hu⟩ := list8T (pidL_length (c, s))
      rw [hu]
      have hbc : bC [d0, d1, d2, d3, d4, d5, d6, d7] = #[.int .u8 (d0 : Int), .int .u8 (d1 : Int), .int .u8 (d2 : Int), .int .u8 (d3 : Int), .int .u8 (d4 : Int), .int .u8 (d5 : Int), .int .u8 (d6 : Int), .int .u8 (d7 : Int)] := rfl
      rw [hbc]
      generalize hY : (#[.int .u8 (d0 : Int), .int .u8 (d1 : Int), .int .u8 (d2 : Int), .int .u8 (d3 : Int), .int .u8 (d4 : Int), .int .u8 (d5 : Int), .int .u8 (d6 : Int), .int .u8 (d7 : Int)] : Array Value) = Y
      have HX5 := Lib.hid (HBA.out.trans (hb5.mono HBA.out.size))
      have HN5 := Lib.hid ((hb5.block _ (by simp)).trans HNA.out)
      have HX6 := Lib.hid (HX5.out.alloc HX5.out.size (.cells Y 43))
      have hn6 := (Below.heap_alloc w5 (.cells Y 43) _ (lt_of_block HN5.out)).trans HN5.out
      have HN6 := Lib.hid hn6
      have b0 := cell_of_row _ _ 0 _ _ _ hn6
      have b1 := cell_of_row _ _ 1 _ _ _ hn6
      simp only [List.getElem?_toArray, List.getElem?_cons_succ, List.getElem?_cons_zero] at b0 b1
      subst hY
      clear hu hbc hb5 a0 a1 r0 r1 hn6
      by_cases hp : pcode (c, s) = 0
      · rw [hp]
        obtain ⟨hk1, hs1⟩ := pcode_zero hp
        simp only at hk1 hs1
        obtain ⟨n, rfl⟩ := Int.eq_ofNat_of_zero_le (show 0 ≤ c by omega)
        have z2 : (0 : Int) ≤ (n : Int) := Int.natCast_nonneg _
        have z3 : (n : Int) < 256 := by omega
        have hcv := conv1 n (by omega) (w5.alloc (.cells #[.int .u8 (d0 : Int), .int .u8 (d1 : Int), .int .u8 (d2 : Int), .int .u8 (d3 : Int), .int .u8 (d4 : Int), .int .u8 (d5 : Int), .int .u8 (d6 : Int), .int .u8 (d7 : Int)] 43))
        simp only [World.size_alloc] at hcv
        have hsz : (strOf [n] ++ s).size = 1 + s.size := by rw [ByteArray.size_append, strOf_size]; rfl
        have hmx : ¬ 9223372036854775807 < (strOf [n]).size + s.size := by rw [strOf_size]; show ¬ _ < 1 + _; omega
        have hst : strN (strOf [n] ++ s) = blN ((n : Int), s) := by rw [strN_add, strN_strOf [n] (by intro c hc; rw [List.mem_singleton] at hc; omega)]; rfl
        have HFA := Lib.hid fun wx => frame_any (strOf [n] ++ s) wx (by omega)
        unfold FrEnd at HFA
        rw [hst, hsz] at HFA
        have HTKM : Hid ((l.take (k + 1)).map blN = (l.take k).map blN ++ [blN ((n : Int), s)]) := by show _ = _; rw [HTK.out, List.map_append]; rfl
        have HP0 := Lib.hid hp
        have e1 := cell_of_row _ _ 1 _ _ _ ((Below.heap_alloc (w5.alloc (.cells #[.int .u8 (d0 : Int), .int .u8 (d1 : Int), .int .u8 (d2 : Int), .int .u8 (d3 : Int), .int .u8 (d4 : Int), .int .u8 (d5 : Int), .int .u8 (d6 : Int), .int .u8 (d7 : Int)] 43)) (.cells #[.int .u8 (n : Int)] 5) _ (lt_of_block HN6.out)).trans HN6.out)
        simp only [List.getElem?_toArray, List.getElem?_cons_succ, List.getElem?_cons_zero] at e1
        clear hst hsz hp hk1 hs1
        go_wp2_with fail
        refine (HFA.out _).mono ?_
        rintro e w8 ⟨⟨hbig, rfl⟩ | ⟨f, hf, hf4, rfl⟩, hb8⟩
        · have B1 := Lib.hid (HBX.out.trans ((HX6.out.alloc HX6.out.size (.cells #[.int .u8 (n : Int)] 5)).mono HBX.out.size))
          have B2 := Lib.hid (B1.out.trans (hb8.mono B1.out.size))
          have HBIG := Lib.hid hbig
          clear hb8 hbig hcv HFA
          go_wp2_with fail
          refine leavesM_ret2 rfl rfl ⟨.inr ⟨2, by decide, .inl ⟨_, HMEM.out, .inr (by have := HBIG.out; show 4096 < s.size + 1; omega)⟩, rfl⟩, B2.out⟩
        · have B1 := Lib.hid (HBX.out.trans ((HX6.out.alloc HX6.out.size (.cells #[.int .u8 (n : Int)] 5)).mono HBX.out.size))
          have B2 := Lib.hid (B1.out.trans (hb8.mono B1.out.size))
          have HO1 := Lib.hid (own_below' HOWN.out ((HX6.out.alloc HX6.out.size (.cells #[.int .u8 (n : Int)] 5)).trans (hb8.mono (HX6.out.alloc HX6.out.size (.cells #[.int .u8 (n : Int)] 5)).size)))
          have HNX : Hid (Frms idf ((l.take (k + 1)).map blN) (o ++ strN f)) := by show Frms idf _ _; rw [HTKM.out]; exact .snoc HFR.out hf
          have D3 : Hid (o.length + f.size ≤ maxLen) := by show _ ≤ _; unfold maxLen; omega
          have D4 : Hid (o.length + f.size ≤ 140737488355328) := by show _ ≤ _; omega
          have D5 : Hid (w.heap.size ≤ w8.heap.size) := B2.out.size
          clear hb8 hf hcv HFA
          go_wp2_with (at_builtin; refine Lib.wpList_append_own_string _ rfl _ _ 53 9 rfl w.heap.size 5 i0 Tryd.underlying53 Tryd.underlying9 hi0 hz0 hz1 hz2 _ _ _ rfl HO1.out f rfl D3.out D4.out D5.out ?_)
          intro v' w9 hown' hgrow _
          have BW := Lib.hid (below_own B2.out hgrow D5.out HO1.out (Nat.le_refl _))
          obtain ⟨oa2, oc2, rfl⟩ := own_form' hown'
          have hlen : (o ++ strN f).length = o.length + f.size := by rw [List.length_append, strN_length]
          have OW : Hid (w9.ownsRow w.heap.size 5 1 (.slice oa2 (o ++ strN f).length oc2) (o ++ strN f).length ((o ++ strN f).map bV)) := by
            show w9.ownsRow _ _ _ _ _ _
            rw [hlen, List.map_append, ← strCells_bV]
            exact hown'
          have HLN := Lib.hid hlen
          clear hown' hgrow hlen
          by_cases hbig : 2048000 < o.length + f.size
          · have f1 : (2048000 : Int) < ((o.length + f.size : Nat) : Int) := by omega
            have f2 : (2048000 : Int) < (o.length : Int) + (f.size : Int) := by omega
            have HN : Hid (BadT l) := .inr ⟨k + 1, _, HNX.out, by rw [HLN.out]; exact hbig⟩
            clear hbig
            go_wp2_with fail
            refine leavesM_ret2 rfl rfl ⟨.inr ⟨2, by decide, HN.out, rfl⟩, BW.out⟩
          · have f1 : ¬ (2048000 : Int) < ((o.length + f.size : Nat) : Int) := by omega
            have f2 : ¬ (2048000 : Int) < (o.length : Int) + (f.size : Int) := by omega
            have H256 : Hid (∀ c ∈ o ++ strN f, c < 256) := fun c hc => by
              rcases List.mem_append.1 hc with h | h
              · exact HOLT.out c h
              · exact strN_lt f c h
            have HPK2 : Hid (∀ b ∈ l.take (k + 1), pcode b = 0) := fun b hb => by
              rw [HTK.out] at hb
              rcases List.mem_append.1 hb with h | h
              · exact HPK.out b h
              · rw [List.mem_singleton.1 h]; exact HP0.out
            go_wp2_with fail
            go_roundw
            case rel => exact ⟨k + 1, o ++ strN f, oa2, oc2, HLT.out, by go_num, by rw [HLN.out], HNX.out, H256.out, HPK2.out, by rw [HLN.out]; omega, OW.out, BW.out⟩
            case measure => simp [intOf]; have := HLT.out; omega
      · have c1 : ((pcode (c, s) : Int) != 0) = true := by simp; omega
        have HP1 := Lib.hid hp
        have B1 := Lib.hid (HBX.out.trans (HX6.out.mono HBX.out.size))
        clear hp
        go_wp2_with fail
        refine leavesM_ret2 rfl rfl ⟨.inr ⟨pcode (c, s), HP1.out, .inl ⟨_, HMEM.out, .inl HP1.out⟩, rfl⟩, B1.out⟩
    · obtain rfl : k = l.length := by omega
      have m1 : ¬ (l.length : Int) < (l.length : Int) := by omega
      have hft := HFR.out
      have hpt := HPK.out
      rw [List.take_length] at hft hpt
      have HFT := Lib.hid hft
      have HPT := Lib.hid hpt
      clear hft hpt hlt HFR HPK
      have HCH := Lib.hid (chunk_any oa o.length oc)
      have hmf : ∀ (fn : Fn) (first cap : Array Value) (w : World), (Instr.makeFunc fn first cap).run Tryd.prog w = .ok (.func fn first cap) w := fun _ _ _ _ => rfl
      go_wp2_with fail
      refine (HCH.out _).mono ?_
      rintro e w2 ⟨rfl, rfl⟩
      go_wp2_with fail
      obtain ⟨W3, hW3⟩ : ∃ W3, ((wr.alloc (.cells #[.slice none 0 0] 23)).alloc (.cells #[.slice oa o.length oc] 53)).alloc (.cells #[.int .i64 1024] 3) = W3 := ⟨_, rfl⟩
      have bO : Boxed W3 wr.heap.size 23 (.slice none 0 0) := by rw [← hW3]; exact ((Boxed.new wr _ _).alloc _).alloc _
      have b1 : Boxed W3 (wr.heap.size + 1) 53 (.slice oa o.length oc) := by
        rw [← hW3]
        have := (Boxed.new (wr.alloc (.cells #[.slice none 0 0] 23)) 53 (.slice oa o.length oc)).alloc (.cells #[.int .i64 1024] 3)
        rwa [World.size_alloc] at this
      have b2 : Boxed W3 (wr.heap.size + 2) 3 (.int .i64 1024) := by
        rw [← hW3]
        have := Boxed.new ((wr.alloc (.cells #[.slice none 0 0] 23)).alloc (.cells #[.slice oa o.length oc] 53)) 3 (.int .i64 1024)
        rwa [World.size_alloc, World.size_alloc] at this
      have hB3 : Below wr.heap.size wr W3 := by rw [← hW3]; exact (((Below.refl _ wr).alloc (Nat.le_refl _) _).alloc (by simp) _).alloc (by simp; omega) _
      have hsz3 : W3.heap.size = wr.heap.size + 3 := by rw [← hW3]; simp
      rw [hW3]
      obtain ⟨g, hg⟩ : ∃ g, 0 < o.length → oa = some ⟨g, 0, none⟩ := by
        rcases HOWN.out.2 with ⟨h1, h2⟩ | ⟨g, c, cur, h1, _⟩
        · exact ⟨0, fun h => by omega⟩
        · injection h1 with h1 _ _
          exact ⟨g, fun _ => h1⟩
      have hoc : o.length ≤ oc ∧ oc ≤ 9223372036854775807 := own_capK HOWN.out
      have HROW : Hid (∀ W, Below wr.heap.size wr W → ∀ j (hj : j < o.length), W.cell? ⟨g, j, none⟩ = some (bV o[j])) := fun W hW j hj => by
        have h := own_below' HOWN.out hW
        rw [hg (by omega)] at h
        exact own_cellT h j hj
      clear hW3 HCH hmf
      refine (wpIn_wide (n := 9)).1 ?_
      refine wpIn_rangeFunc_ownG rfl (by decide) (gf := 35) (lb := #[.pointer (some ⟨wr.heap.size + 1, 0, none⟩), .pointer (some ⟨wr.heap.size + 2, 0, none⟩)]) rfl trivial (enters_of Tryd.func35 (by kernel_rfl) rfl)
        (chunk_stopsA 8 (by decide) (wr.heap.size + 1) (wr.heap.size + 2) wr.heap.size g o.length oc oa hg (by omega) hoc.1 hoc.2 W3 b1 b2) KpC.trans (KpC.book (by omega)) (Below.refl _ _) (fun _ => rfl)
        (fun pre W => (∃ v, Boxed W wr.heap.size 23 v ∧ W.ownsRow wr.heap.size 9 1 v pre.length (pre.map fun i => Value.string (strOf (pcT o i))) ∧ (v = .slice none 0 0 ↔ pre = [])) ∧ (Below wr.heap.size wr W ∧ (Boxed W (wr.heap.size + 1) 53 (.slice oa o.length oc) ∧ Boxed W (wr.heap.size + 2) 3 (.int .i64 1024))))
        (fun _ _ _ => False)
        (OwnFrom.and (Own.from (holdsRow_own wr.heap.size wr.heap.size 23 9 1 (fun pre : List Nat => pre.length) (fun pre => pre.map fun i => Value.string (strOf (pcT o i))) (fun pre v => v = .slice none 0 0 ↔ pre = [])) _) (OwnFrom.and (ownFrom_below (Nat.le_refl _) (by omega)) (OwnFrom.and (Own.from (boxed_own _ _ fun _ => _) _) (Own.from (boxed_own _ _ fun _ => _) _))))
        (fun _ _ _ _ _ hs _ _ => hs)
        ⟨⟨_, bO, World.ownsRow_nil _ _ _ _, by simp⟩, hB3, b1, b2⟩ ?a1 ?assign ?body ?done ?stop
      case assign =>
        intro l x W K hK
        simp only [encC]
        gi_wp2
        exact hK
      case body =>
        rintro l pre x W ⟨⟨v, hv, hrow, hnil⟩, hB, k1, k2⟩ hlen
        have hc := hv.cell
        have hcv := conv_piece HOLT.out (HROW.out W hB) x
        have hn2 : nP o.length ≤ 2001 := by unfold nP; omega
        gi_wp2_with (gi_at_builtin; refine wpListIn_append_own _ rfl _ _ 23 rfl wr.heap.size 9 j0 (.string ⟨#[]⟩) 1 16 Tryd.underlying23 hj0 hy0 hy1 hy2 rfl (by decide) _ _ _ rfl (hrow.alloc _) ⟨W.heap.size, 0, none⟩ 1 1 [.string (strOf (pcT o x))] rfl rfl (cell_one_new _ _ _) (by simp [Value.oneCell']) (by unfold maxLen; omega) (by omega) (by have := hB.size; simp; omega) ?_; intro v' w1 hown' hgrow _; obtain ⟨g', cap', rfl⟩ := ownsRow_succ hown'; obtain ⟨hv1, hv2, hr2, hk2, hb2⟩ := hv.appended (by decide) hrow hB.size (Nat.le_refl _) hown' hgrow; have hc1 := hv1.cell; have hf1 := hv1.frozen)
        have q1 := ((k1.alloc (.cells #[.string (strOf (pcT o x))] 9)).kept hgrow (k1.not_row (by decide) hrow)).other (by omega : wr.heap.size + 1 ≠ wr.heap.size) (.slice (some ⟨g', 0, none⟩) (pre.length + 1) cap')
        have q2 := ((k2.alloc (.cells #[.string (strOf (pcT o x))] 9)).kept hgrow (k2.not_row (by decide) hrow)).other (by omega : wr.heap.size + 2 ≠ wr.heap.size) (.slice (some ⟨g', 0, none⟩) (pre.length + 1) cap')
        exact ⟨hk2.from _, ⟨hb2, fun _ => q1, fun _ => q2⟩, ⟨_, hv2, by simpa using hr2, by simp⟩, hB.trans hb2, q1, q2⟩
      case done =>
        rintro D ys W hD rfl ⟨⟨v, hv, hrow, hnil⟩, hB, k1, k2⟩ hK
        have hc := hv.cell
        obtain ⟨va, vc, hve⟩ := own_form' hrow
        rw [hve] at hc hrow
        simp only [Exit.inBlock, Exit.then]
        rename_i HKK
        refine HKK _ _ ?_
        go_wp2_with fail
        refine ⟨by simp, .inl ⟨_, _, rfl, run_takeDeferred hK, ?_⟩⟩
        have hBD := hB.trans (belowK_b (w := wr) (Nat.le_refl _) W D _ (.deferred none) (by omega) hK rfl rfl)
        have hr2 := own_mono (ownsRow_putObj hrow (.deferred none) hK rfl) HBX.out.size
        rw [List.length_range] at hr2
        refine ⟨_, results_tmp2 rfl _ _ _, .inl ⟨o, va, vc, HFT.out, HOLT.out, HPT.out, hol, by simp, ?_⟩, HBX.out.trans (hBD.mono HBX.out.size)⟩
        have : (pcsS o).flatMap sC = (List.range (nP o.length)).map fun i => Value.string (strOf (pcT o i)) := by
          unfold pcsS pcsT
          rw [List.map_map, List.flatMap_map, List.map_eq_flatMap]
          rfl
        rw [this]
        exact hr2
      case stop =>
        rintro D c pre W _ _ h _
        exact h.elim
end Go.Proofs.YtpfmfigommmjiaaDoor
