/- Joined: WalkOnceP, WalkOnceW. -/
import Derived.Test.YtbfoonfbhebhfaaGreatDoorGoS
import Derived.Test.YtbfoonfbhebhfaaGreatDoorGoJ
namespace Go.Proofs.YtbfoonfbhebhfaaGreatDoor
open Go.RowKit Plain Go.Maps Go.ChangeMaps
set_option linter.unusedVariables false
set_option linter.unusedSimpArgs false
def vI (n : Int) : Value := .int .i64 n
def HadM (P : List (List Nat)) (es : List (List Nat × Int)) : Prop := (∀ e ∈ es, e.1.length = 8) ∧ ∀ id, ilk es id = if id ∈ P then some 1 else none
theorem HadM.nil : HadM [] [] := ⟨by simp, fun _ => rfl⟩
theorem HadM.new {P : List (List Nat)} {es : List (List Nat × Int)} (h : HadM P es) {id : List Nat} (h8 : id.length = 8) (hn : id ∉ P) : HadM (P ++ [id]) (es ++ [(id, 1)]) := by
  refine ⟨fun e he => ?_, fun q => ?_⟩
  · rcases List.mem_append.1 he with he | he
    · exact h.1 e he
    · rw [List.mem_singleton] at he; subst he; exact h8
  · rw [ilk_snoc, h.2 q]
    by_cases hq : q ∈ P
    · simp [hq]
    · by_cases e : id = q
      · subst e; simp [hq]
      · have : ¬ q = id := fun e2 => e e2.symm
        simp [hq, e, this]
def NdM (S : List Nat → Prop) (ns : List (List Nat × Int)) : Prop := (∀ e ∈ ns, e.1.length = 8) ∧ (ns.map (·.1)).Nodup ∧ (∀ e ∈ ns, e.2 = 1) ∧ ∀ n, n ∈ ns.map (·.1) ↔ S n
theorem NdM.congr {S S' : List Nat → Prop} {ns : List (List Nat × Int)} (h : NdM S ns) (hs : ∀ n, S n ↔ S' n) : NdM S' ns := ⟨h.1, h.2.1, h.2.2.1, fun n => (h.2.2.2 n).trans (hs n)⟩
theorem NdM.none {S : List Nat → Prop} {ns : List (List Nat × Int)} (h : NdM S ns) {n : List Nat} (hq : ilk ns n = Option.none) : ¬ S n := fun hs => by
  obtain ⟨⟨a, b⟩, he, e⟩ := List.mem_map.1 ((h.2.2.2 n).2 hs)
  simp only at e
  subst e
  exact ilk_none hq b he
theorem NdM.some {S : List Nat → Prop} {ns : List (List Nat × Int)} (h : NdM S ns) {n : List Nat} {v : Int} (hq : ilk ns n = Option.some v) : S n ∧ v = 1 := by
  have hm := ilk_mem hq
  exact ⟨(h.2.2.2 n).1 (List.mem_map.2 ⟨_, hm, rfl⟩), h.2.2.1 _ hm⟩
theorem NdM.new {S : List Nat → Prop} {ns : List (List Nat × Int)} (h : NdM S ns) {n : List Nat} (h8 : n.length = 8) (hq : ilk ns n = Option.none) : NdM (fun x => S x ∨ x = n) (ns ++ [(n, 1)]) := by
  have hno := h.none hq
  refine ⟨fun e he => ?_, ?_, fun e he => ?_, fun x => ?_⟩
  · rcases List.mem_append.1 he with he | he
    · exact h.1 e he
    · rw [List.mem_singleton] at he; subst he; exact h8
  · rw [List.map_append, List.nodup_append]
    refine ⟨h.2.1, by simp, fun a ha b hb e => ?_⟩
    simp only [List.map_cons, List.map_nil, List.mem_singleton] at hb
    subst hb e
    exact hno ((h.2.2.2 _).1 ha)
  · rcases List.mem_append.1 he with he | he
    · exact h.2.2.1 e he
    · rw [List.mem_singleton] at he; subst he; rfl
  · rw [List.map_append, List.mem_append, h.2.2.2 x]
    simp
theorem NdM.old {S : List Nat → Prop} {ns : List (List Nat × Int)} (h : NdM S ns) {n : List Nat} {v : Int} (hq : ilk ns n = Option.some v) : NdM (fun x => S x ∨ x = n) ns :=
  h.congr fun x => ⟨.inl, fun hx => hx.elim id (fun e => by rw [e]; exact (h.some hq).1)⟩
theorem NdM.nil : NdM (fun _ => False) [] := ⟨by simp, by simp, by simp, by simp⟩
def SN (l : List Bl) (i : Nat) (x : List Nat) : Prop := ∃ c ∈ l.take i, x ∈ ndF c
theorem SN_zero (l : List Bl) (x : List Nat) : ¬ SN l 0 x := fun ⟨c, hc, _⟩ => by cases hc
theorem SN_succ {l : List Bl} {i : Nat} {b : Bl} (htk : l.take (i + 1) = l.take i ++ [b]) (x : List Nat) : SN l (i + 1) x ↔ SN l i x ∨ x ∈ ndF b := by
  unfold SN
  rw [htk]
  constructor
  · rintro ⟨c, hc, hx⟩
    rcases List.mem_append.1 hc with hc | hc
    · exact .inl ⟨c, hc, hx⟩
    · rw [List.mem_singleton] at hc; subst hc; exact .inr hx
  · rintro (⟨c, hc, hx⟩ | hx)
    · exact ⟨c, List.mem_append_left _ hc, hx⟩
    · exact ⟨b, by simp, hx⟩
theorem FrR.setBlock {R : Nat} {w : World} (o : Obj) : FrR R none none w (Go.ChangeMaps.setBlock w R o) := ⟨rfl, rfl, rfl, by simp [Go.ChangeMaps.setBlock], fun k _ hne _ => by
  simp only [Go.ChangeMaps.setBlock]
  rw [Array.getElem?_setIfInBounds_ne (by omega)], .inl rfl⟩
theorem zero_intW (w : World) : (zeroValue 3).run Tryz.prog w = .ok (vI 0) w := by kernel_rfl
end Go.Proofs.YtbfoonfbhebhfaaGreatDoor
namespace Go.Proofs.YtbfoonfbhebhfaaGreatDoor
open Go.RowKit Plain Go.Maps Go.ChangeMaps
set_option linter.unusedVariables false
set_option linter.unusedSimpArgs false
set_option maxRecDepth 100000 in
set_option maxHeartbeats 4000000 in
theorem walkOnce_any (fx mn mx bt : Int) (aa : Option Addr) (ca : Nat) (la : List It) (m : Int) (w : World) (ha : SAt 5 iC w aa la) (za : la.length ≤ 9223372036854775807) (sa : ∀ x ∈ la, x.1.size ≤ 1048576) (ta : TmOk la) (hm : MaxL m w) (hT : Tabs w) (hMC : MaxC w) :
    Calls Tryz.prog 7 #[.agg #[.int .i64 fx, .int .i64 mn, .int .i64 mx, .int .i64 bt], .slice aa la.length ca] w fun e w' => e = .returned (.bool true) ∧ Below w.heap.size w w' := by
  have hb0 := (Below.refl w.heap.size w).alloc (Nat.le_refl _) (.cells #[.int .i64 fx, .int .i64 mn, .int .i64 mx, .int .i64 bt] 25)
  have hr0 := heap_alloc_new w (.cells #[.int .i64 fx, .int .i64 mn, .int .i64 mx, .int .i64 bt] 25)
  have HB0 := Lib.hid hb0
  have HR0 := Lib.hid hr0
  have HA := Lib.hid ha
  have HSA := Lib.hid sa
  have HTA := Lib.hid ta
  have HM := Lib.hid hm
  have HT := Lib.hid hT
  have HMC := Lib.hid hMC
  clear hb0 hr0 ha sa ta hm hT hMC
  go_enter Tryz.func7, Tryz.ntmps7
  go_wp2_with fail
  refine (walked_any m _ (HM.out.below HB0.out) (HT.out.below HB0.out) (HMC.out.below HB0.out)).mono ?_
  rintro e w1 ⟨rfl, hb1⟩
  have hr1 := (hb1.block _ (lt_of_block HR0.out)).trans HR0.out
  have HB1 := Lib.hid (HB0.out.trans (hb1.mono HB0.out.size))
  have b0 := cell_of_row _ _ 0 _ _ _ hr1
  have b1 := cell_of_row _ _ 1 _ _ _ hr1
  have b2 := cell_of_row _ _ 2 _ _ _ hr1
  have b3 := cell_of_row _ _ 3 _ _ _ hr1
  simp only [List.getElem?_toArray, List.getElem?_cons_zero, List.getElem?_cons_succ] at b0 b1 b2 b3
  clear hb1 hr1 HR0 HB0
  go_wp2_with fail
  clear b0 b1 b2 b3
  refine (plantU fx mn mx bt aa ca la m w1 (HA.out.below HB1.out) za HSA.out HTA.out (HM.out.below HB1.out) (HT.out.below HB1.out) (HMC.out.below HB1.out)).mono ?_
  rintro e w2 ⟨hb2, l, i0, i1, i2, i3, i4, i5, i6, i7, oa, oc, c, rfl, hs2, hown2, hl2, hc⟩
  have HB2 := Lib.hid (HB1.out.trans (hb2.mono HB1.out.size))
  have hba := (Below.refl w2.heap.size w2).alloc (Nat.le_refl _) (.cells #[.int .u8 (i0 : Int), .int .u8 (i1 : Int), .int .u8 (i2 : Int), .int .u8 (i3 : Int), .int .u8 (i4 : Int), .int .u8 (i5 : Int), .int .u8 (i6 : Int), .int .u8 (i7 : Int)] 30)
  have hna := heap_alloc_new w2 (.cells #[.int .u8 (i0 : Int), .int .u8 (i1 : Int), .int .u8 (i2 : Int), .int .u8 (i3 : Int), .int .u8 (i4 : Int), .int .u8 (i5 : Int), .int .u8 (i6 : Int), .int .u8 (i7 : Int)] 30)
  have HB3 := Lib.hid (HB2.out.trans (hba.mono HB2.out.size))
  have HS3 := Lib.hid (hs2.below hba)
  have HRI := Lib.hid hna
  have HC := Lib.hid hc
  have hl4 : (l.length : Int) ≤ 40000 := by omega
  have HL2 := Lib.hid hl2
  clear hb2 hba hna hs2 hown2 hc hl2
  by_cases hc0 : c = 0
  rotate_left
  · have c1 : (c != 0) = true := by simpa using hc0
    obtain ⟨_, h1, h3, _⟩ := HC.out.resolve_left (fun h => hc0 h.1)
    have l0 : (l.length : Int) = 0 := by rw [h1]; rfl
    clear hc0 h1 h3 HC
    go_wp2_with fail
    go_ret
    exact ⟨rfl, HB3.out⟩
  subst hc0
  have HON := Lib.hid (once_law (HC.out.resolve_right (fun h => h.1 rfl)).2 HTA.out)
  clear HC
  have hmm := @run_makeMap Tryz.prog
  generalize hw3 : w2.alloc (.cells #[.int .u8 (i0 : Int), .int .u8 (i1 : Int), .int .u8 (i2 : Int), .int .u8 (i3 : Int), .int .u8 (i4 : Int), .int .u8 (i5 : Int), .int .u8 (i6 : Int), .int .u8 (i7 : Int)] 30) = w3 at HB3 HS3 HRI
  have HM1 : Hid (((w3.alloc (.map #[] 0)).alloc (.map #[] 0)).heap[w3.heap.size]? = some (imO vI [])) := Lib.hid ((heap_twoK w3 (.map #[] 0) (.map #[] 0)).1)
  have HM2 : Hid (((w3.alloc (.map #[] 0)).alloc (.map #[] 0)).heap[w3.heap.size + 1]? = some (imO vI [])) := Lib.hid ((heap_twoK w3 (.map #[] 0) (.map #[] 0)).2)
  have HBM : Hid (Below w3.heap.size w3 ((w3.alloc (.map #[] 0)).alloc (.map #[] 0))) := Lib.hid (((Below.refl w3.heap.size w3).alloc (Nat.le_refl _) _).alloc (by simp) _)
  go_wp2_with fail
  try rw [hw3]
  try simp only [hw3]
  clear hmm
  go_loopw [36] (fun iv wr => ∃ (i : Nat) (es ns : List (List Nat × Int)), i ≤ l.length ∧ iv = .int .i64 (i : Int) ∧ Hid (HadM ((l.take i).map pidL) es) ∧ Hid (NdM (SN l i) ns) ∧ Hid (wr.heap[w3.heap.size]? = some (imO vI es)) ∧ Hid (wr.heap[w3.heap.size + 1]? = some (imO vI ns)) ∧ Hid (Below w3.heap.size w3 wr)) (fun iv _ => l.length - (intOf iv).toNat)
  case atStart => exact ⟨0, [], [], Nat.zero_le _, rfl, Lib.hid HadM.nil, Lib.hid (NdM.nil.congr fun x => ⟨False.elim, fun h => (SN_zero l x h).elim⟩), HM1, HM2, HBM⟩
  case round =>
    obtain ⟨i, es, ns, hi, rfl, HES, HNS, HMR, HNR, HBR⟩ := hrel
    clear HM1 HM2 HBM
    by_cases hlt : i < l.length
    · have m1 : (i : Int) < (l.length : Int) := by omega
      obtain ⟨g, off, rfl, hg, hr⟩ := (HS3.out.below HBR.out) i hlt
      have htk : l.take (i + 1) = l.take i ++ [l[i]] := List.take_succ_eq_append_getElem hlt
      obtain ⟨hbk, hbf⟩ := HON.out.ok _ (List.getElem_mem hlt)
      have hnd := HON.out.need i hlt
      have hrt := HON.out.root i hlt
      have hfr := nodup_take HON.out.ids hlt
      generalize l[i] = bl at *
      obtain ⟨k, s⟩ := bl
      have HTK := Lib.hid htk
      have r0 : wr.cell? ⟨g, off + i * 2, none⟩ = some (.int .i64 k) := hr 0 _ rfl
      have r1 : wr.cell? ⟨g, off + i * 2 + 1, none⟩ = some (.string s) := hr 1 _ rfl
      have HLT := Lib.hid hlt
      have hna := heap_alloc_new wr (.cells #[.int .i64 k, .string s] 37)
      have hba := (Below.refl wr.heap.size wr).alloc (Nat.le_refl _) (.cells #[.int .i64 k, .string s] 37)
      have HNA := Lib.hid hna
      have HBA := Lib.hid hba
      have a0 := cell_of_row _ _ 0 _ _ _ hna
      have a1 := cell_of_row _ _ 1 _ _ _ hna
      simp only [List.getElem?_toArray, List.getElem?_cons_succ, List.getElem?_cons_zero] at a0 a1
      have HBK := Lib.hid hbk
      have HBF := Lib.hid hbf
      have HND := Lib.hid hnd
      have HRT := Lib.hid hrt
      have HFR := Lib.hid hfr
      clear htk hr hg hna hba hlt hbk hbf hnd hrt hfr
      go_wp2_with fail
      refine (pid_any (k, s) _).mono ?_
      rintro e w5 ⟨rfl, hb5⟩
      obtain ⟨d0, d1, d2, d3, d4, d5, d6, d7, hu⟩ := list8W (pidL_length (k, s))
      have HU := Lib.hid hu
      rw [HBK.out, hu]
      have hbc : bC [d0, d1, d2, d3, d4, d5, d6, d7] = #[.int .u8 (d0 : Int), .int .u8 (d1 : Int), .int .u8 (d2 : Int), .int .u8 (d3 : Int), .int .u8 (d4 : Int), .int .u8 (d5 : Int), .int .u8 (d6 : Int), .int .u8 (d7 : Int)] := rfl
      rw [hbc]
      have HX5 := Lib.hid (HBA.out.trans (hb5.mono HBA.out.size))
      have hn5 := (hb5.block _ (lt_of_block HNA.out)).trans HNA.out
      have hba6 := (Below.refl w5.heap.size w5).alloc (Nat.le_refl _) (.cells #[.int .u8 (d0 : Int), .int .u8 (d1 : Int), .int .u8 (d2 : Int), .int .u8 (d3 : Int), .int .u8 (d4 : Int), .int .u8 (d5 : Int), .int .u8 (d6 : Int), .int .u8 (d7 : Int)] 30)
      have hu6 := heap_alloc_new w5 (.cells #[.int .u8 (d0 : Int), .int .u8 (d1 : Int), .int .u8 (d2 : Int), .int .u8 (d3 : Int), .int .u8 (d4 : Int), .int .u8 (d5 : Int), .int .u8 (d6 : Int), .int .u8 (d7 : Int)] 30)
      have HX6 := Lib.hid (HX5.out.trans (hba6.mono HX5.out.size))
      have hn6 := (hba6.block _ (lt_of_block hn5)).trans hn5
      have HU6 := Lib.hid hu6
      have t0 := cell_of_row _ _ 0 _ _ _ hn6
      have t1 := cell_of_row _ _ 1 _ _ _ hn6
      simp only [List.getElem?_toArray, List.getElem?_cons_succ, List.getElem?_cons_zero] at t0 t1
      have HNE := Lib.hid (needs_any k s (w5.alloc (.cells #[.int .u8 (d0 : Int), .int .u8 (d1 : Int), .int .u8 (d2 : Int), .int .u8 (d3 : Int), .int .u8 (d4 : Int), .int .u8 (d5 : Int), .int .u8 (d6 : Int), .int .u8 (d7 : Int)] 30)) (HT.out.below (HB3.out.trans ((HBR.out.trans (HX6.out.mono HBR.out.size)).mono HB3.out.size))))
      have H56 : Hid (wr.heap.size ≤ w5.heap.size) := Lib.hid HX5.out.size
      clear hu hbc hb5 hn5 hba6 hu6 hn6 a0 a1 r0 r1
      go_wp2_with fail
      generalize hw6 : w5.alloc (.cells #[.int .u8 (d0 : Int), .int .u8 (d1 : Int), .int .u8 (d2 : Int), .int .u8 (d3 : Int), .int .u8 (d4 : Int), .int .u8 (d5 : Int), .int .u8 (d6 : Int), .int .u8 (d7 : Int)] 30) = w6 at *
      clear hw6 t0 t1
      refine HNE.out.mono ?_
      rintro e w7 ⟨hb7, ⟨_, na, nc, rfl, hown7, hn20, hids⟩ | ⟨hno, _⟩⟩
      rotate_left
      · exact absurd ⟨HBK.out, fun h2 => (HBF.out.resolve_left (fun h1 => by simp only at h1 h2; omega)).2⟩ hno
      have HX7 := Lib.hid (HX6.out.trans (hb7.mono HX6.out.size))
      have HY7 := Lib.hid (HBR.out.trans (HX7.out.mono HBR.out.size))
      have HU7 := Lib.hid ((hb7.block _ (lt_of_block HU6.out)).trans HU6.out)
      have HRI7 := Lib.hid ((HY7.out.block _ (lt_of_block HRI.out)).trans HRI.out)
      have HM7 := Lib.hid ((HX7.out.block _ (lt_of_blockW HMR.out)).trans HMR.out)
      have HN7 := Lib.hid ((HX7.out.block _ (lt_of_blockW HNR.out)).trans HNR.out)
      obtain ⟨nd, hnd⟩ : ∃ nd, ndF (k, s) = nd := ⟨_, rfl⟩
      rw [hnd] at hown7 hn20 hids ⊢
      have HNQ := Lib.hid hnd
      have HSD := Lib.hid (own_satI hids hown7)
      have HSB : Hid (∀ ad, na = some ad → ad.block ≠ w3.heap.size + 1 ∧ some ad.block ≠ none) := Lib.hid fun ad e => ⟨by
        have h1 := nb_own hown7 ad e
        have h2 := lt_of_blockW HNR.out
        have h3 := HX6.out.size
        omega, by simp⟩
      have HIDS := Lib.hid hids
      have hn20i : (nd.length : Int) ≤ 20000 := by omega
      have hl1 := look_id1 vI (w := w7) (b := w3.heap.size) (mt := 54) Tryz.underlying54 (zero_intW w7) HM7.out [d0, d1, d2, d3, d4, d5, d6, d7] rfl HES.out.1
      rw [HES.out.2, if_neg (by rw [← HU.out]; exact HFR.out)] at hl1
      replace hl1 : (Instr.lookup 54 (.map (some w3.heap.size)) (.agg #[.int .u8 (d0 : Int), .int .u8 (d1 : Int), .int .u8 (d2 : Int), .int .u8 (d3 : Int), .int .u8 (d4 : Int), .int .u8 (d5 : Int), .int .u8 (d6 : Int), .int .u8 (d7 : Int)]) false).run Tryz.prog w7 = .ok (.int .i64 0) w7 := hl1
      obtain ⟨E1, E3⟩ := eqK_id [d0, d1, d2, d3, d4, d5, d6, d7] [i0, i1, i2, i3, i4, i5, i6, i7] rfl rfl
      obtain ⟨bb, hbb⟩ : ∃ bb, decide ([d0, d1, d2, d3, d4, d5, d6, d7] = [i0, i1, i2, i3, i4, i5, i6, i7]) = bb := ⟨_, rfl⟩
      rw [hbb] at E1
      replace E1 : ∀ wx, (binOp .eql 30 (.agg #[.int .u8 (d0 : Int), .int .u8 (d1 : Int), .int .u8 (d2 : Int), .int .u8 (d3 : Int), .int .u8 (d4 : Int), .int .u8 (d5 : Int), .int .u8 (d6 : Int), .int .u8 (d7 : Int)]) (.agg #[.int .u8 (i0 : Int), .int .u8 (i1 : Int), .int .u8 (i2 : Int), .int .u8 (i3 : Int), .int .u8 (i4 : Int), .int .u8 (i5 : Int), .int .u8 (i6 : Int), .int .u8 (i7 : Int)])).run Tryz.prog wx = .ok (.bool bb) wx := E1
      replace E3 : ∀ (o : BinOp) (a b : Operand) (wx : World), (eqGuard o 30 a b (.agg #[.int .u8 (d0 : Int), .int .u8 (d1 : Int), .int .u8 (d2 : Int), .int .u8 (d3 : Int), .int .u8 (d4 : Int), .int .u8 (d5 : Int), .int .u8 (d6 : Int), .int .u8 (d7 : Int)]) (.agg #[.int .u8 (i0 : Int), .int .u8 (i1 : Int), .int .u8 (i2 : Int), .int .u8 (i3 : Int), .int .u8 (i4 : Int), .int .u8 (i5 : Int), .int .u8 (i6 : Int), .int .u8 (i7 : Int)])).run Tryz.prog wx = .ok () wx := E3
      have z9 : ((i : Int) == (l.length : Int) - 1) = bb := by
        have h1 := HRT.out
        rw [HU.out] at h1
        rw [← hbb, Bool.eq_iff_iff, beq_iff_eq, decide_eq_true_iff, h1]
        omega
      have c0 := cell_of_row _ _ 0 _ _ _ HU7.out
      have c1 := cell_of_row _ _ 1 _ _ _ HU7.out
      have c2 := cell_of_row _ _ 2 _ _ _ HU7.out
      have c3 := cell_of_row _ _ 3 _ _ _ HU7.out
      have c4 := cell_of_row _ _ 4 _ _ _ HU7.out
      have c5 := cell_of_row _ _ 5 _ _ _ HU7.out
      have c6 := cell_of_row _ _ 6 _ _ _ HU7.out
      have c7 := cell_of_row _ _ 7 _ _ _ HU7.out
      simp only [List.getElem?_toArray, List.getElem?_cons_zero, List.getElem?_cons_succ] at c0 c1 c2 c3 c4 c5 c6 c7
      have p0 := cell_of_row _ _ 0 _ _ _ HRI7.out
      have p1 := cell_of_row _ _ 1 _ _ _ HRI7.out
      have p2 := cell_of_row _ _ 2 _ _ _ HRI7.out
      have p3 := cell_of_row _ _ 3 _ _ _ HRI7.out
      have p4 := cell_of_row _ _ 4 _ _ _ HRI7.out
      have p5 := cell_of_row _ _ 5 _ _ _ HRI7.out
      have p6 := cell_of_row _ _ 6 _ _ _ HRI7.out
      have p7 := cell_of_row _ _ 7 _ _ _ HRI7.out
      simp only [List.getElem?_toArray, List.getElem?_cons_zero, List.getElem?_cons_succ] at p0 p1 p2 p3 p4 p5 p6 p7
      clear hb7 hown7 hn20 hids hnd hbb HNE HU6
      go_wp2_with fail
      clear hl1 E1 E3 z9 p0 p1 p2 p3 p4 p5 p6 p7 c0 c1 c2 c3 c4 c5 c6 c7
      have HMF := Lib.hid HM7.out
      go_loopw [76] (fun jv wr => ∃ (j : Nat) (ms : List (List Nat × Int)), j ≤ nd.length ∧ jv = .int .i64 (j : Int) ∧ Hid (NdM (fun x => SN l i x ∨ x ∈ nd.take j) ms) ∧ Hid (wr.heap[w3.heap.size + 1]? = some (imO vI ms)) ∧ Hid (FrR (w3.heap.size + 1) none none w7 wr)) (fun jv _ => nd.length - (intOf jv).toNat)
      case atStart => exact ⟨0, ns, Nat.zero_le _, rfl, Lib.hid (HNS.out.congr fun x => ⟨.inl, fun h => h.elim id (fun h => by cases h)⟩), HN7, Lib.hid (FrR.refl _ _ _)⟩
      case round =>
        obtain ⟨j, ms, hj, rfl, HMS, HNJ, HFJ⟩ := hrel
        have HMJ : Hid (wr.heap[w3.heap.size]? = some (imO vI es)) := Lib.hid ((HFJ.out.block _ (lt_of_blockW HMF.out) (by omega) (by simp)).trans HMF.out)
        have HBJ : Hid (Below w3.heap.size w3 wr) := Lib.hid (HY7.out.trans (HFJ.out.below (by omega) (fun g h => by cases h) HY7.out.size))
        have HUJ := Lib.hid ((HFJ.out.block _ (lt_of_block HU7.out) (by have := lt_of_blockW HNR.out; have := H56.out; omega) (by simp)).trans HU7.out)
        by_cases hltj : j < nd.length
        · have m2 : (j : Int) < (nd.length : Int) := by omega
          obtain ⟨g2, off2, rfl, hg2, hrr⟩ := (HFJ.out.sat HSD.out HSB.out) j hltj
          have htk2 : nd.take (j + 1) = nd.take j ++ [nd[j]] := List.take_succ_eq_append_getElem hltj
          have hin : nd[j] ∈ (l.take i).map pidL := HND.out _ (by rw [HNQ.out]; exact List.getElem_mem hltj)
          have h8 := HIDS.out _ (List.getElem_mem hltj)
          generalize nd[j] = n at *
          obtain ⟨v0, v1, v2, v3, v4, v5, v6, v7, rfl⟩ := list8W h8
          have q0 := hrr 0 _ rfl
          have q1 := hrr 1 _ rfl
          have q2 := hrr 2 _ rfl
          have q3 := hrr 3 _ rfl
          have q4 := hrr 4 _ rfl
          have q5 := hrr 5 _ rfl
          have q6 := hrr 6 _ rfl
          have q7 := hrr 7 _ rfl
          simp only [Nat.add_zero, bV] at q0 q1 q2 q3 q4 q5 q6 q7
          have HTK2 := Lib.hid htk2
          have HLJ := Lib.hid hltj
          have hrn := heap_alloc_new wr (.cells #[.int .u8 (v0 : Int), .int .u8 (v1 : Int), .int .u8 (v2 : Int), .int .u8 (v3 : Int), .int .u8 (v4 : Int), .int .u8 (v5 : Int), .int .u8 (v6 : Int), .int .u8 (v7 : Int)] 30)
          have hba := (Below.refl wr.heap.size wr).alloc (Nat.le_refl _) (.cells #[.int .u8 (v0 : Int), .int .u8 (v1 : Int), .int .u8 (v2 : Int), .int .u8 (v3 : Int), .int .u8 (v4 : Int), .int .u8 (v5 : Int), .int .u8 (v6 : Int), .int .u8 (v7 : Int)] 30)
          have hmj := (hba.block _ (lt_of_blockW HMJ.out)).trans HMJ.out
          have hnj := (hba.block _ (lt_of_blockW HNJ.out)).trans HNJ.out
          have hl2 := look_id1 vI (w := wr.alloc (.cells #[.int .u8 (v0 : Int), .int .u8 (v1 : Int), .int .u8 (v2 : Int), .int .u8 (v3 : Int), .int .u8 (v4 : Int), .int .u8 (v5 : Int), .int .u8 (v6 : Int), .int .u8 (v7 : Int)] 30)) (b := w3.heap.size) (mt := 54) Tryz.underlying54 (zero_intW _) hmj [v0, v1, v2, v3, v4, v5, v6, v7] rfl HES.out.1
          rw [HES.out.2, if_pos hin] at hl2
          replace hl2 : (Instr.lookup 54 (.map (some w3.heap.size)) (.agg #[.int .u8 (v0 : Int), .int .u8 (v1 : Int), .int .u8 (v2 : Int), .int .u8 (v3 : Int), .int .u8 (v4 : Int), .int .u8 (v5 : Int), .int .u8 (v6 : Int), .int .u8 (v7 : Int)]) false).run Tryz.prog (wr.alloc (.cells #[.int .u8 (v0 : Int), .int .u8 (v1 : Int), .int .u8 (v2 : Int), .int .u8 (v3 : Int), .int .u8 (v4 : Int), .int .u8 (v5 : Int), .int .u8 (v6 : Int), .int .u8 (v7 : Int)] 30)) = .ok (.int .i64 1) (wr.alloc (.cells #[.int .u8 (v0 : Int), .int .u8 (v1 : Int), .int .u8 (v2 : Int), .int .u8 (v3 : Int), .int .u8 (v4 : Int), .int .u8 (v5 : Int), .int .u8 (v6 : Int), .int .u8 (v7 : Int)] 30)) := hl2
          have p0 := cell_of_row _ _ 0 _ _ _ hrn
          have p1 := cell_of_row _ _ 1 _ _ _ hrn
          have p2 := cell_of_row _ _ 2 _ _ _ hrn
          have p3 := cell_of_row _ _ 3 _ _ _ hrn
          have p4 := cell_of_row _ _ 4 _ _ _ hrn
          have p5 := cell_of_row _ _ 5 _ _ _ hrn
          have p6 := cell_of_row _ _ 6 _ _ _ hrn
          have p7 := cell_of_row _ _ 7 _ _ _ hrn
          simp only [List.getElem?_toArray, List.getElem?_cons_zero, List.getElem?_cons_succ] at p0 p1 p2 p3 p4 p5 p6 p7
          cases hq : ilk ms [v0, v1, v2, v3, v4, v5, v6, v7] with
          | some v =>
            obtain ⟨_, hv1⟩ := HMS.out.some hq
            subst hv1
            have hput := put_id8_same vI (mt := 54) Tryz.underlying54 hnj [v0, v1, v2, v3, v4, v5, v6, v7] 1 rfl HMS.out.1 hq
            replace hput : (Instr.mapUpdate 54 (.map (some (w3.heap.size + 1))) (.agg #[.int .u8 (v0 : Int), .int .u8 (v1 : Int), .int .u8 (v2 : Int), .int .u8 (v3 : Int), .int .u8 (v4 : Int), .int .u8 (v5 : Int), .int .u8 (v6 : Int), .int .u8 (v7 : Int)]) (.int .i64 1)).run Tryz.prog (wr.alloc (.cells #[.int .u8 (v0 : Int), .int .u8 (v1 : Int), .int .u8 (v2 : Int), .int .u8 (v3 : Int), .int .u8 (v4 : Int), .int .u8 (v5 : Int), .int .u8 (v6 : Int), .int .u8 (v7 : Int)] 30)) = .ok () (setBlock (wr.alloc (.cells #[.int .u8 (v0 : Int), .int .u8 (v1 : Int), .int .u8 (v2 : Int), .int .u8 (v3 : Int), .int .u8 (v4 : Int), .int .u8 (v5 : Int), .int .u8 (v6 : Int), .int .u8 (v7 : Int)] 30)) (w3.heap.size + 1) (imO vI ms)) := hput
            have HN2 := Lib.hid ((HMS.out.old hq).congr (S' := fun x => SN l i x ∨ x ∈ nd.take (j + 1)) fun x => by rw [HTK2.out]; simp [or_assoc])
            have HNB := Lib.hid (setBlockI_same vI hnj (imO vI ms))
            have HF2 := Lib.hid (HFJ.out.trans ((FrR.of_below hba).trans (FrR.setBlock (imO vI ms))))
            clear hrr hg2 htk2 hin h8 hrn hba hmj hnj hq hltj
            go_wp2_with fail
            go_roundw
            case rel => exact ⟨j + 1, ms, HLJ.out, by go_num, HN2, HNB, HF2⟩
            case measure => simp [intOf]; have := HLJ.out; omega
          | none =>
            have hput := put_id8 vI (mt := 54) Tryz.underlying54 hnj [v0, v1, v2, v3, v4, v5, v6, v7] 1 rfl HMS.out.1 hq
            replace hput : (Instr.mapUpdate 54 (.map (some (w3.heap.size + 1))) (.agg #[.int .u8 (v0 : Int), .int .u8 (v1 : Int), .int .u8 (v2 : Int), .int .u8 (v3 : Int), .int .u8 (v4 : Int), .int .u8 (v5 : Int), .int .u8 (v6 : Int), .int .u8 (v7 : Int)]) (.int .i64 1)).run Tryz.prog (wr.alloc (.cells #[.int .u8 (v0 : Int), .int .u8 (v1 : Int), .int .u8 (v2 : Int), .int .u8 (v3 : Int), .int .u8 (v4 : Int), .int .u8 (v5 : Int), .int .u8 (v6 : Int), .int .u8 (v7 : Int)] 30)) = .ok () (setBlock (wr.alloc (.cells #[.int .u8 (v0 : Int), .int .u8 (v1 : Int), .int .u8 (v2 : Int), .int .u8 (v3 : Int), .int .u8 (v4 : Int), .int .u8 (v5 : Int), .int .u8 (v6 : Int), .int .u8 (v7 : Int)] 30)) (w3.heap.size + 1) (imO vI (ms ++ [([v0, v1, v2, v3, v4, v5, v6, v7], 1)]))) := hput
            have HN2 := Lib.hid ((HMS.out.new rfl hq).congr (S' := fun x => SN l i x ∨ x ∈ nd.take (j + 1)) fun x => by rw [HTK2.out]; simp [or_assoc])
            have HNB := Lib.hid (setBlockI_same vI hnj (imO vI (ms ++ [([v0, v1, v2, v3, v4, v5, v6, v7], 1)])))
            have HF2 := Lib.hid (HFJ.out.trans ((FrR.of_below hba).trans (FrR.setBlock (imO vI (ms ++ [([v0, v1, v2, v3, v4, v5, v6, v7], 1)])))))
            clear hrr hg2 htk2 hin h8 hrn hba hmj hnj hq hltj
            go_wp2_with fail
            go_roundw
            case rel => exact ⟨j + 1, _, HLJ.out, by go_num, HN2, HNB, HF2⟩
            case measure => simp [intOf]; have := HLJ.out; omega
        · have m2 : ¬ (j : Int) < (nd.length : Int) := by omega
          obtain rfl : j = nd.length := by omega
          have hnin : [d0, d1, d2, d3, d4, d5, d6, d7] ∉ (l.take i).map pidL := by rw [← HU.out]; exact HFR.out
          have hqn : ilk es [d0, d1, d2, d3, d4, d5, d6, d7] = none := by rw [HES.out.2, if_neg hnin]
          have hput := put_id8 vI (mt := 54) Tryz.underlying54 HMJ.out [d0, d1, d2, d3, d4, d5, d6, d7] 1 rfl HES.out.1 hqn
          replace hput : (Instr.mapUpdate 54 (.map (some w3.heap.size)) (.agg #[.int .u8 (d0 : Int), .int .u8 (d1 : Int), .int .u8 (d2 : Int), .int .u8 (d3 : Int), .int .u8 (d4 : Int), .int .u8 (d5 : Int), .int .u8 (d6 : Int), .int .u8 (d7 : Int)]) (.int .i64 1)).run Tryz.prog wr = .ok () (setBlock wr w3.heap.size (imO vI (es ++ [([d0, d1, d2, d3, d4, d5, d6, d7], 1)]))) := hput
          have HE2 : Hid (HadM ((l.take (i + 1)).map pidL) (es ++ [([d0, d1, d2, d3, d4, d5, d6, d7], 1)])) := Lib.hid (by
            rw [HTK.out, List.map_append, List.map_cons, List.map_nil, HU.out]
            exact HES.out.new rfl hnin)
          have HN2 : Hid (NdM (SN l (i + 1)) ms) := Lib.hid (HMS.out.congr fun x => by rw [SN_succ HTK.out, HNQ.out, List.take_length])
          have HMB := Lib.hid (setBlockI_same vI HMJ.out (imO vI (es ++ [([d0, d1, d2, d3, d4, d5, d6, d7], 1)])))
          have HNB := Lib.hid ((setBlockI_other (w := wr) (b := w3.heap.size) (imO vI (es ++ [([d0, d1, d2, d3, d4, d5, d6, d7], 1)])) (i := w3.heap.size + 1) (by omega)).trans HNJ.out)
          have HBB := Lib.hid (below_setBlockI HBJ.out (Nat.le_refl _) (imO vI (es ++ [([d0, d1, d2, d3, d4, d5, d6, d7], 1)])))
          have p0 := cell_of_row _ _ 0 _ _ _ HUJ.out
          have p1 := cell_of_row _ _ 1 _ _ _ HUJ.out
          have p2 := cell_of_row _ _ 2 _ _ _ HUJ.out
          have p3 := cell_of_row _ _ 3 _ _ _ HUJ.out
          have p4 := cell_of_row _ _ 4 _ _ _ HUJ.out
          have p5 := cell_of_row _ _ 5 _ _ _ HUJ.out
          have p6 := cell_of_row _ _ 6 _ _ _ HUJ.out
          have p7 := cell_of_row _ _ 7 _ _ _ HUJ.out
          simp only [List.getElem?_toArray, List.getElem?_cons_zero, List.getElem?_cons_succ] at p0 p1 p2 p3 p4 p5 p6 p7
          clear hnin hqn
          go_wp2_with fail
          go_roundw
          case rel => exact ⟨i + 1, _, ms, HLT.out, by go_num, HE2, HN2, HMB, HNB, HBB⟩
          case measure => simp [intOf]; have := HLT.out; omega
    · have m1 : ¬ (i : Int) < (l.length : Int) := by omega
      obtain rfl : i = l.length := by omega
      obtain ⟨hln, hnr⟩ := HON.out.all (ns.map (·.1)) HNS.out.2.1 (fun n => (HNS.out.2.2.2 n).trans (by unfold SN; rw [List.take_length]))
      rw [List.length_map] at hln
      have hq : ilk ns [i0, i1, i2, i3, i4, i5, i6, i7] = none := by
        cases hq : ilk ns [i0, i1, i2, i3, i4, i5, i6, i7] with
        | none => rfl
        | some v => exact absurd (List.mem_map.2 ⟨_, ilk_mem hq, rfl⟩) hnr
      have hl1 := look_id1 vI (w := wr) (b := w3.heap.size + 1) (mt := 54) Tryz.underlying54 (zero_intW wr) HNR.out [i0, i1, i2, i3, i4, i5, i6, i7] rfl HNS.out.1
      rw [hq] at hl1
      replace hl1 : (Instr.lookup 54 (.map (some (w3.heap.size + 1))) (.agg #[.int .u8 (i0 : Int), .int .u8 (i1 : Int), .int .u8 (i2 : Int), .int .u8 (i3 : Int), .int .u8 (i4 : Int), .int .u8 (i5 : Int), .int .u8 (i6 : Int), .int .u8 (i7 : Int)]) false).run Tryz.prog wr = .ok (.int .i64 0) wr := hl1
      have hle : ∀ ty, (Builtin.len_ #[54] ty #[.map (some (w3.heap.size + 1))]).run Tryz.prog wr = .ok (.int .i64 (ns.length : Int)) wr := fun ty => by
        have hg := MapKept.run_getObj_map (P := Tryz.prog) HNR.out
        simp [Builtin.len_, run_underlying Tryz.underlying54, hg, goInt, Result.andThen, imE_size]
      have z8 : ((ns.length : Int) == (l.length : Int) - 1) = true := by simp; omega
      have z7 : (ns.length : Int) = (l.length : Int) - 1 := by omega
      have hri := (HBR.out.block _ (lt_of_block HRI.out)).trans HRI.out
      have p0 := cell_of_row _ _ 0 _ _ _ hri
      have p1 := cell_of_row _ _ 1 _ _ _ hri
      have p2 := cell_of_row _ _ 2 _ _ _ hri
      have p3 := cell_of_row _ _ 3 _ _ _ hri
      have p4 := cell_of_row _ _ 4 _ _ _ hri
      have p5 := cell_of_row _ _ 5 _ _ _ hri
      have p6 := cell_of_row _ _ 6 _ _ _ hri
      have p7 := cell_of_row _ _ 7 _ _ _ hri
      simp only [List.getElem?_toArray, List.getElem?_cons_zero, List.getElem?_cons_succ] at p0 p1 p2 p3 p4 p5 p6 p7
      have HFIN := Lib.hid (HB3.out.trans (HBR.out.mono HB3.out.size))
      clear hln hnr hq hri
      go_wp2_with fail
      go_ret
      exact ⟨rfl, HFIN.out⟩
end Go.Proofs.YtbfoonfbhebhfaaGreatDoor
