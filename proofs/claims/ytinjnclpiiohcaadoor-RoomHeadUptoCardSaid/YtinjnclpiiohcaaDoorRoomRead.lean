/- The walk of room.Read. -/
import Derived.Test.YtinjnclpiiohcaaDoorRoomRead0
import Derived.Test.YtinjnclpiiohcaaDoorBase0
namespace Go.Proofs.YtinjnclpiiohcaaDoor
open Go.RowKit Plain
set_option linter.unusedVariables false
theorem map_inj_on {α β : Type} (f : α → β) : ∀ (l m : List α), l.map f = m.map f → (∀ x ∈ l, ∀ y ∈ m, f x = f y → x = y) → l = m
  | [], [], _, _ => rfl
  | [], _ :: _, h, _ => by cases h
  | _ :: _, [], h, _ => by cases h
  | a :: l, b :: m, h, hi => by
    simp only [List.map_cons, List.cons.injEq] at h
    rw [hi a (by simp) b (by simp) h.1, map_inj_on f l m h.2 (fun x hx y hy => hi x (by simp [hx]) y (by simp [hy]))]
theorem HdOk.hdb {nx : Int} {P : List Int} {S : List SM} (h : HdOk nx P S) : HdB (hdOf nx P S) := by
  obtain ⟨⟨h1, h2⟩, ⟨h3, h4⟩, h5, h6, _⟩ := h
  refine ⟨by show nx.toNat ≤ 65536; omega, ⟨by show (P.map Int.toNat).length ≤ 100; rw [List.length_map]; exact h1, fun p hp => ?_⟩, by show (S.map snOf).length ≤ 20; rw [List.length_map]; exact h2, fun x hx => ?_⟩
  · obtain ⟨q, hq, rfl⟩ := List.mem_map.1 hp
    have := h5 q hq
    unfold inR at this
    omega
  · obtain ⟨s, hs, rfl⟩ := List.mem_map.1 hx
    obtain ⟨k1, k2, k3⟩ := h6 s hs
    have := chk_sizeR k1
    exact ⟨by show (strN s.1).length ≤ 1024; rw [strN_length]; omega, by show s.2.1.toNat ≤ 4223371679; omega, rfl⟩
theorem snOf_inj {s t : SM} (h : snOf s = snOf t) (h1 : 0 ≤ s.2.1) (h2 : 0 ≤ t.2.1) : s = t := by
  obtain ⟨n, m, q0, q1, q2, q3, q4, q5, q6, q7⟩ := s
  obtain ⟨n', m', p0, p1, p2, p3, p4, p5, p6, p7⟩ := t
  simp only [snOf, Prod.mk.injEq] at h h1 h2
  obtain ⟨a, b, c⟩ := h
  have e1 := strN_inj a
  have e2 : m = m' := by omega
  simp only [idL, List.cons.injEq, and_true] at c
  obtain ⟨c0, c1, c2, c3, c4, c5, c6, c7⟩ := c
  subst e1 e2 c0 c1 c2 c3 c4 c5 c6 c7
  rfl
/-- what was read is the one head that can stand here -/
theorem rd_same {t u : List Nat} {nx : Nat} {P : List Nat} {S : List SM} {b : Bool} {nx' : Int} {P' : List Int} {S' : List SM} (h : (b = false ∧ RdH t (nx, P, S.map snOf) u) ∨ (b = true ∧ NoR t)) (hS : ∀ s ∈ S, 0 ≤ s.2.1) (k : HdOk nx' P' S') (hx : HTx (hdOf nx' P' S') t) : b = false ∧ nx' = (nx : Int) ∧ P' = P.map (fun n : Nat => (n : Int)) ∧ S' = S := by
  have hr := hx.rd k.hdb
  rcases h with ⟨rfl, h⟩ | ⟨_, h⟩
  · obtain ⟨e, _⟩ := h.unique hr
    have e1 : nx = nx'.toNat := congrArg (·.1) e
    have e2 : P = P'.map Int.toNat := congrArg (·.2.1) e
    have e3 : S.map snOf = S'.map snOf := congrArg (·.2.2) e
    obtain ⟨_, ⟨h3, _⟩, h5, h6, _⟩ := k
    refine ⟨rfl, by omega, ?_, map_inj_on snOf S' S e3.symm (fun x hx y hy hxy => snOf_inj hxy (h6 x hx).2.1 (hS y hy))⟩
    rw [e2, List.map_map]
    refine (List.map_id' P').symm.trans (List.map_congr_left fun x hx => ?_)
    have := (h5 x hx).1
    show x = ((x.toNat : Nat) : Int)
    omega
  · exact absurd hr (h _ _)
theorem idf8 : ∀ l, (idf l).length = 8 := idf_length
/-- a head's file holds one record -/
theorem HWr.scan {nx : Int} {P : List Int} {S : List SM} {f : ByteArray} (h : HWr nx P S f) : ∃ t : ByteArray, HTx (hdOf nx P S) (strN t) ∧ Frm idf (strN t) (strN f) ∧ ∀ {l n}, Scan idf (strN f) l n → l = [strN t] ∧ n = f.size := by
  obtain ⟨_, t, h1, h2⟩ := h
  refine ⟨t, h1, h2, fun hs => ?_⟩
  have := (Frms.cons (.nil) h2).all idf8
  rw [List.append_nil] at this
  obtain ⟨e1, e2⟩ := hs.unique this
  exact ⟨e1, by rw [e2, strN_length]⟩
/-- what Read answers -/
def RdEnd (s : ByteArray) (w0 : World) (e : Ending) (w : World) : Prop := Below w0.heap.size w0 w ∧ ((∃ nx P S pa pc sa sc, e = .returned (.tuple #[.agg #[.int .i64 nx, .slice pa P.length pc, .slice sa S.length sc], .int .i64 0]) ∧ HWr nx P S s ∧ SAt 1 nC w pa P ∧ SAt 10 smC w sa S ∧ (∀ s ∈ S, s.1.size ≤ 1024 ∧ ∀ c ∈ idL s.2.2, c < 256) ∧ P.length ≤ 100 ∧ S.length ≤ 20 ∧ (∀ p, pa = some p → w0.heap.size ≤ p.block) ∧ ∀ p, sa = some p → w0.heap.size ≤ p.block) ∨
  (∃ c : Int, c ≠ 0 ∧ e = .returned (.tuple #[.agg #[.int .i64 0, .slice none 0 0, .slice none 0 0], .int .i64 c]) ∧ ∀ nx P S, ¬ HWr nx P S s))
theorem scan_len {s r : List Nat} {l : List (List Nat)} {n : Nat} (h : Scan idf s (r :: l) n) : r.length ≤ 4096 := by
  cases h with
  | go h1 _ =>
    unfold stepF at h1
    split at h1
    · rename_i h2
      split at h1
      · cases h1
      · simp only [Option.some.injEq, Prod.mk.injEq] at h1
        obtain ⟨rfl, _⟩ := h1
        rw [List.length_drop, List.length_take]
        have := h2.2
        omega
    · cases h1
theorem SAt.ownBlk {w : World} {base : Nat} {t t' : TypeId} {k n c B : Nat} {a : Option Addr} {xs : List Value} {C : Array Value} (h : w.ownsRow base t k (.slice a n c) n xs) (hne : t ≠ t') (hB : w.heap[B]? = some (.cells C t' (0, 0))) : ∀ p, a = some p → p.block ≠ B := fun p hp e => by
  subst hp
  exact own_neR h hB hne (by rw [← e]; rfl)
theorem sat_otherC {α : Type} {n : Nat} {c : α → List Value} {w : World} {a : Option Addr} {l : List α} {B : Nat} {o : Obj} (h : SAt n c w a l) (_ : w.heap[B]? = some o) (hne : ∀ p, a = some p → p.block ≠ B) (vs : List Value) : SAt n c (w.setCells B 0 vs) a l := fun i hi => by
  obtain ⟨g, off, e, hg, hr⟩ := h i hi
  have := hne _ e
  refine ⟨g, off, e, by rw [(setCells_frame B vs 0 w).2]; exact hg, fun j u hu => ?_⟩
  rw [World.cell?_of_block (a := ⟨g, off + i * n + j, none⟩) (heap_setCells_other B g this vs 0 w)]
  exact hr j u hu
theorem sc_cell {w : World} {base : Nat} {a : Option Addr} {c : Nat} {r : ByteArray} (h : w.ownsRow base 9 1 (.slice a 1 c) 1 ([r].flatMap sC)) : ∃ g, a = some ⟨g, 0, none⟩ ∧ w.cell? ⟨g, 0, none⟩ = some (.string r) := by
  rcases h.2 with ⟨hv, h0⟩ | ⟨g, cap, cur, hv, hB, hh, h3, h4, h5, h6⟩
  · omega
  · injection hv with hv
    refine ⟨g, hv, ?_⟩
    rw [cell_of_row _ _ _ _ _ _ hh]
    have : (cur.toList.take (1 * 1))[0]? = some (Value.string r) := by rw [h6]; rfl
    rw [List.getElem?_take] at this
    simpa using this
set_option maxRecDepth 100000 in
set_option maxHeartbeats 8000000 in
theorem rread_any (s : ByteArray) (w : World) (hs : s.size ≤ 70000000) (hT : Tabs w) (hM : MaxC w) : Calls Tryd.prog 20 #[.string s] w (RdEnd s w) := by
  obtain ⟨i1, hi1, hz10, hz11, hz12⟩ := info_parts (show (Tryd.prog.info? 3).map (fun i => (i.zero, i.size, i.bytes)) = some (some (.int .i64 0), 1, 8) by kernel_rfl)
  obtain ⟨i2, hi2, hz20, hz21, hz22⟩ := info_parts (show (Tryd.prog.info? 63).map (fun i => (i.zero, i.size, i.bytes)) = some (some (.agg #[.string ⟨#[]⟩, .int .i64 0, .int .u8 0, .int .u8 0, .int .u8 0, .int .u8 0, .int .u8 0, .int .u8 0, .int .u8 0, .int .u8 0]), 10, 32) by kernel_rfl)
  have HI : Hid ((Tryd.prog.info? 56).map (·.size) = some (#[.int .i64 0, .slice none 0 0, .slice none 0 0] : Array Value).size) := by show _ = _; kernel_rfl
  have HON : Hid ((#[.int .i64 0, .slice none 0 0, .slice none 0 0] : Array Value).all (·.oneCell') = true) := by show _ = _; simp [Value.oneCell']
  have HT0 := Lib.hid hT
  have HM0 := Lib.hid hM
  have HB0 : Hid (Below w.heap.size w (w.alloc (.cells #[.int .i64 0, .slice none 0 0, .slice none 0 0] 56))) := (Below.refl _ _).alloc (Nat.le_refl _) _
  have HC0 := Lib.hid (heap_alloc_new w (.cells #[.int .i64 0, .slice none 0 0, .slice none 0 0] 56))
  have HSC := Lib.hid (scan_any s (w.alloc (.cells #[.int .i64 0, .slice none 0 0, .slice none 0 0] 56)) hs)
  clear hT hM
  go_enter Tryd.func20, Tryd.ntmps20
  go_wp2_with fail
  refine HSC.out.mono ?_
  rintro e w1 ⟨rs, p, sa, sc, hsn, hps, hrl, rfl, hown, hb⟩
  have HB1 := Lib.hid (HB0.out.trans (hb.mono HB0.out.size))
  have HC1 := Lib.hid ((hb.block _ (lt_of_block HC0.out)).trans HC0.out)
  have HSN := Lib.hid hsn
  have HOW := Lib.hid hown
  clear hb hsn hown HSC
  have hsz : (s.size : Int) ≤ 70000000 := by omega
  by_cases h1 : rs.length = 1
  · by_cases hp : p = s.size
    · obtain ⟨r0, rfl⟩ : ∃ r0, rs = [r0] := by
        match rs, h1 with
        | [r], _ => exact ⟨r, rfl⟩
      subst hp
      have HSN1 : Hid (Scan idf (strN s) [strN r0] s.size) := HSN.out
      obtain ⟨g, rfl, hcell⟩ := sc_cell HOW.out
      have hr0 : r0.size ≤ 4096 := by have := scan_len HSN.out; rwa [strN_length] at this
      have HR2 : Hid (RSB (w1.alloc (.cells #[.string r0, .bool false] 99)) w1.heap.size r0 false) := heap_alloc_new w1 _
      have HC2 := Lib.hid ((Below.heap_alloc w1 (.cells #[.string r0, .bool false] 99) _ (lt_of_block HC1.out)).trans HC1.out)
      have HB2 := Lib.hid (HB1.out.alloc HB1.out.size (.cells #[.string r0, .bool false] 99))
      have HCR : Hid (w.heap.size < w1.heap.size) := lt_of_block HC1.out
      clear h1
      go_wp2_with fail
      obtain ⟨R, hR⟩ : ∃ R, w1.heap.size = R := ⟨_, rfl⟩
      rw [hR] at HR2 HCR
      rw [hR]
      generalize w1.alloc (.cells #[.string r0, .bool false] 99) = w2 at *
      clear hcell
      refine (rnumber_any R r0 false 65536 w2 (by omega) (by decide) HR2.out).mono ?_
      rintro e u3 ⟨nx, l1, b1, rfl, hr, hbx, hz1, hp1⟩
      have HP1 : Hid (Prt (pNum 65536) (strN r0) false nx (strN l1) b1) := hp1.imp (fun h => h) (fun h => ⟨h.1, h.2.2⟩)
      have HL4 : Hid (LD w (u3.alloc (.cells #[.int .i64 (nx : Int), .slice none 0 0, .slice none 0 0] 56)) R u3.heap.size l1 b1 nx none 0 [] none 0 []) := by
        have hba : Below u3.heap.size u3 (u3.alloc (.cells #[.int .i64 (nx : Int), .slice none 0 0, .slice none 0 0] 56)) := (Below.refl _ _).alloc (Nat.le_refl _) _
        have hc3 := hbx.block (by have := HCR.out; omega) HC2.out
        have hb3 := HB2.out.trans (hbx.below (by have := HCR.out; omega) HB2.out.size)
        exact ⟨hr.below hba, heap_alloc_new u3 _, World.ownsRow_nil _ _ _ _, World.ownsRow_nil _ _ _ _, (hba.block _ (lt_of_block hc3)).trans hc3, hb3.trans (hba.mono hb3.size), HCR.out, lt_of_block hr⟩
      have HZ1 : Hid (l1.size ≤ r0.size) := hz1
      clear hr hbx hz1 hp1 HR2 HC2 HB2
      go_wp2_with fail
      obtain ⟨HB, hHB⟩ : ∃ HB, u3.heap.size = HB := ⟨_, rfl⟩
      rw [hHB] at HL4
      rw [hHB]
      generalize u3.alloc (.cells #[.int .i64 (nx : Int), .slice none 0 0, .slice none 0 0] 56) = w4 at *
      have hz1 := HZ1.out
      refine (rnumber_any R l1 b1 100 w4 (by omega) (by decide) HL4.out.1).mono ?_
      rintro e u5 ⟨np, l2, b2, rfl, hr, hbx, hz2, hp2⟩
      have HL5 := Lib.hid (HL4.out.call hbx hr)
      have hnp : np ≤ 100 := by
        rcases hp2 with ⟨_, h, _⟩ | ⟨_, h, _⟩
        · exact (pNum_back (strN_lt l1) h).1
        · omega
      have HPK0 := Lib.hid (PkS.start HP1.out (show Prt (pNum 100) (strN l1) b1 np (strN l2) b2 from hp2.imp (fun h => h) (fun h => ⟨h.1, h.2.2⟩)))
      have HZ2 : Hid (l2.size ≤ r0.size) := Nat.le_trans hz2 hz1
      clear hr hbx hz2 hp2 hz1
      go_wp2_with fail
      go_loopw [35] (fun kv wr => ∃ (l : ByteArray) (b : Bool) (pa : Option Addr) (pc : Nat) (P : List Nat), P.length ≤ np ∧ kv = .int .i64 (P.length : Int) ∧ LD w wr R HB l b nx pa pc P none 0 [] ∧ l.size ≤ r0.size ∧ PkS (strN r0) nx np P (strN l) b) (fun kv _ => np - (intOf kv).toNat)
      case atStart => exact ⟨l2, b2, none, 0, [], by simp, rfl, HL5.out, HZ2.out, HPK0.out⟩
      case round =>
        obtain ⟨l, b, pa, pc, P, hpl, rfl, hld, hzl, hpk⟩ := hrel
        have HLD := Lib.hid hld
        have HPK := Lib.hid hpk
        clear hld hpk HL5 HPK0 HL4
        by_cases hlt : P.length < np
        · have m1 : (P.length : Int) < (np : Int) := by omega
          go_wp2_with fail
          refine wp_region_noPanic ?_
          refine wp_region_held_drew (S := fun _ => True) (by kernel_rfl) trivial (fun _ => ?_)
          have HLD : Hid (LD w wr.drew R HB l b nx pa pc P none 0 []) := HLD.out.drew
          generalize wr.drew = wr at *
          obtain ⟨_, xw1, xw2, _⟩ := HLD.out.h
          refine take_val 0 (.pointer (some ⟨HB, 1, none⟩)) rfl (by kernel_rfl) (by kernel_rfl) (by kernel_rfl) (fun _ _ _ _ h => h) (by rfl) rfl (fun wz hS => by go_simp) trivial ?_
          try simp only [List.set_cons_zero, List.set_cons_succ]
          refine take_val 2 (.pointer (some ⟨R, 0, none⟩)) rfl (by kernel_rfl) (by kernel_rfl) (by kernel_rfl) (fun _ _ _ _ h => h) (by rfl) rfl (fun wz hS => by go_simp) trivial ?_
          try simp only [List.set_cons_zero, List.set_cons_succ]
          refine two_ready 1 3 (by kernel_rfl) rfl rfl (by rfl) (by rfl) (fun K hK => ?_) (fun K hK => ?_)
          · go_simp
            refine hK.out _ _ trivial ?_
            clear hK K
            try simp only [Act.put, List.setIfInBounds_toArray]
            try simp only [List.set_cons_zero, List.set_cons_succ]
            refine one_ready 3 (by kernel_rfl) rfl (by rfl) (fun K hK => ?_)
            go_simp
            refine (rnumber_any R l b 65536 wr (by omega) (by decide) HLD.out.1).mono ?_
            rintro en u ⟨a, l', b', rfl, hr, hbx, hz, hp⟩
            have HPT : Hid (Prt (pNum 65536) (strN l) b a (strN l') b') := hp.imp (fun h => h) (fun h => ⟨h.1, h.2.2⟩)
            have HLU := Lib.hid (HLD.out.call hbx hr)
            have HNX := Lib.hid (HPK.out.next hlt HPT.out)
            have HZU : Hid (l'.size ≤ r0.size) := Nat.le_trans hz hzl
            clear hr hbx hz hp
            have D1 := Lib.hid (cells_new_at u u.heap.size rfl #[.int .i64 (a : Int)] 3 [.int .i64 (a : Int)] rfl)
            have D2 : Hid (∀ v ∈ ([.int .i64 (a : Int)] : List Value), v.oneCell' = true) := by intro v hv; simp only [List.mem_cons, List.not_mem_nil, or_false] at hv; rcases hv with rfl <;> rfl
            have D3 : Hid (P.length + 1 ≤ maxLen) := by show _ ≤ _; unfold maxLen; omega
            have D4 : Hid ((P.length + 1) * 8 ≤ 140737488355328) := by show _ ≤ _; omega
            have D5 : Hid (w.heap.size ≤ (u.alloc (.cells #[.int .i64 (a : Int)] 3)).heap.size) := by have := HLU.out.2.2.2.2.2.1.size; show _ ≤ _; simp; omega
            have HLA := Lib.hid (HLU.out.below ((Below.refl u.heap.size u).alloc (Nat.le_refl _) (.cells #[.int .i64 (a : Int)] 3)))
            obtain ⟨_, xu1, xu2, _⟩ := HLU.out.h
            obtain ⟨_, xa1, xa2, _⟩ := HLA.out.h
            go_wp2_with fail
            refine hK.out _ _ trivial ?_
            clear hK K
            try simp only [Act.put, List.setIfInBounds_toArray]
            try simp only [List.set_cons_zero, List.set_cons_succ]
            refine one_ready 4 (by kernel_rfl) rfl (by rfl) (fun K hK => ?_)
            go_simp
            refine hK.out _ _ trivial ?_
            clear hK K
            try simp only [Act.put, List.setIfInBounds_toArray]
            try simp only [List.set_cons_zero, List.set_cons_succ]
            refine one_ready 5 (by kernel_rfl) rfl (by rfl) (fun K hK => ?_)
            refine wp_append_own _ _ _ 53 rfl w.heap.size 3 i1 (.int .i64 0) 1 8 Tryd.underlying53 hi1 hz10 hz11 hz12 rfl (by decide) _ _ _ rfl HLA.out.2.2.1 ⟨u.heap.size, 0, none⟩ 1 1 [.int .i64 (a : Int)] rfl rfl D1.out D2.out D3.out D4.out D5.out ?_
            intro v' w2 hown' hgrow _
            obtain ⟨oa2, oc2, rfl⟩ := own_form1 hown'
            have hbl := below_own HLA.out.2.2.2.2.2.1 hgrow D5.out HLA.out.2.2.1 (Nat.le_refl _)
            have HLN := Lib.hid (HLA.out.pushP a hgrow hown' hbl)
            have hH : w2.heap[HB]? = _ := (hgrow.block HB (lt_of_block HLA.out.2.1) (fun e => own_neR HLA.out.2.2.1 HLA.out.2.1 (by decide) e.symm)).trans HLA.out.2.1
            have cH := cell_of_row w2 HB 1 _ _ _ hH
            simp only [List.getElem?_toArray, List.getElem?_cons_zero, List.getElem?_cons_succ] at cH
            have fH := frozen_of_row w2 HB 1 _ _ hH
            clear hown' hgrow hbl hH
            refine hK.out _ _ trivial ?_
            clear hK K
            try simp only [Act.put, List.setIfInBounds_toArray]
            try simp only [List.set_cons_zero, List.set_cons_succ]
            refine take_val 6 (.pointer (some ⟨HB, 1, none⟩)) rfl (by kernel_rfl) (by kernel_rfl) (by kernel_rfl) (fun _ _ _ _ h => h) (by rfl) rfl (fun wz hS => by go_simp) trivial ?_
            try simp only [List.set_cons_zero, List.set_cons_succ]
            refine one_ready 7 (by kernel_rfl) rfl (by rfl) (fun K hK => ?_)
            go_simp
            refine hK.out _ _ trivial ?_
            clear hK K
            try simp only [Act.put, List.setIfInBounds_toArray]
            try simp only [List.set_cons_zero, List.set_cons_succ]
            refine wpAnyH_done (by kernel_rfl) ?_ _
            refine NoPanic.normal ?_
            go_wp2_with fail
            go_roundw
            case rel => exact ⟨l', b', oa2, oc2, P ++ [a], by rw [List.length_append]; simp; omega, by rw [List.length_append]; go_num, HLN.out, HZU.out, HNX.out⟩
            case measure => simp [intOf]; omega

          · go_simp
            refine (rnumber_any R l b 65536 wr (by omega) (by decide) HLD.out.1).mono ?_
            rintro en u ⟨a, l', b', rfl, hr, hbx, hz, hp⟩
            have HPT : Hid (Prt (pNum 65536) (strN l) b a (strN l') b') := hp.imp (fun h => h) (fun h => ⟨h.1, h.2.2⟩)
            have HLU := Lib.hid (HLD.out.call hbx hr)
            have HNX := Lib.hid (HPK.out.next hlt HPT.out)
            have HZU : Hid (l'.size ≤ r0.size) := Nat.le_trans hz hzl
            clear hr hbx hz hp
            have D1 := Lib.hid (cells_new_at u u.heap.size rfl #[.int .i64 (a : Int)] 3 [.int .i64 (a : Int)] rfl)
            have D2 : Hid (∀ v ∈ ([.int .i64 (a : Int)] : List Value), v.oneCell' = true) := by intro v hv; simp only [List.mem_cons, List.not_mem_nil, or_false] at hv; rcases hv with rfl <;> rfl
            have D3 : Hid (P.length + 1 ≤ maxLen) := by show _ ≤ _; unfold maxLen; omega
            have D4 : Hid ((P.length + 1) * 8 ≤ 140737488355328) := by show _ ≤ _; omega
            have D5 : Hid (w.heap.size ≤ (u.alloc (.cells #[.int .i64 (a : Int)] 3)).heap.size) := by have := HLU.out.2.2.2.2.2.1.size; show _ ≤ _; simp; omega
            have HLA := Lib.hid (HLU.out.below ((Below.refl u.heap.size u).alloc (Nat.le_refl _) (.cells #[.int .i64 (a : Int)] 3)))
            obtain ⟨_, xu1, xu2, _⟩ := HLU.out.h
            obtain ⟨_, xa1, xa2, _⟩ := HLA.out.h
            go_wp2_with fail
            refine hK.out _ _ trivial ?_
            clear hK K
            try simp only [Act.put, List.setIfInBounds_toArray]
            try simp only [List.set_cons_zero, List.set_cons_succ]
            refine two_ready 1 4 (by kernel_rfl) rfl rfl (by rfl) (by rfl) (fun K hK => ?_) (fun K hK => ?_)
            · go_simp
              refine hK.out _ _ trivial ?_
              clear hK K
              try simp only [Act.put, List.setIfInBounds_toArray]
              try simp only [List.set_cons_zero, List.set_cons_succ]
              refine one_ready 4 (by kernel_rfl) rfl (by rfl) (fun K hK => ?_)
              go_simp
              refine hK.out _ _ trivial ?_
              clear hK K
              try simp only [Act.put, List.setIfInBounds_toArray]
              try simp only [List.set_cons_zero, List.set_cons_succ]
              refine one_ready 5 (by kernel_rfl) rfl (by rfl) (fun K hK => ?_)
              refine wp_append_own _ _ _ 53 rfl w.heap.size 3 i1 (.int .i64 0) 1 8 Tryd.underlying53 hi1 hz10 hz11 hz12 rfl (by decide) _ _ _ rfl HLA.out.2.2.1 ⟨u.heap.size, 0, none⟩ 1 1 [.int .i64 (a : Int)] rfl rfl D1.out D2.out D3.out D4.out D5.out ?_
              intro v' w2 hown' hgrow _
              obtain ⟨oa2, oc2, rfl⟩ := own_form1 hown'
              have hbl := below_own HLA.out.2.2.2.2.2.1 hgrow D5.out HLA.out.2.2.1 (Nat.le_refl _)
              have HLN := Lib.hid (HLA.out.pushP a hgrow hown' hbl)
              have hH : w2.heap[HB]? = _ := (hgrow.block HB (lt_of_block HLA.out.2.1) (fun e => own_neR HLA.out.2.2.1 HLA.out.2.1 (by decide) e.symm)).trans HLA.out.2.1
              have cH := cell_of_row w2 HB 1 _ _ _ hH
              simp only [List.getElem?_toArray, List.getElem?_cons_zero, List.getElem?_cons_succ] at cH
              have fH := frozen_of_row w2 HB 1 _ _ hH
              clear hown' hgrow hbl hH
              refine hK.out _ _ trivial ?_
              clear hK K
              try simp only [Act.put, List.setIfInBounds_toArray]
              try simp only [List.set_cons_zero, List.set_cons_succ]
              refine take_val 6 (.pointer (some ⟨HB, 1, none⟩)) rfl (by kernel_rfl) (by kernel_rfl) (by kernel_rfl) (fun _ _ _ _ h => h) (by rfl) rfl (fun wz hS => by go_simp) trivial ?_
              try simp only [List.set_cons_zero, List.set_cons_succ]
              refine one_ready 7 (by kernel_rfl) rfl (by rfl) (fun K hK => ?_)
              go_simp
              refine hK.out _ _ trivial ?_
              clear hK K
              try simp only [Act.put, List.setIfInBounds_toArray]
              try simp only [List.set_cons_zero, List.set_cons_succ]
              refine wpAnyH_done (by kernel_rfl) ?_ _
              refine NoPanic.normal ?_
              go_wp2_with fail
              go_roundw
              case rel => exact ⟨l', b', oa2, oc2, P ++ [a], by rw [List.length_append]; simp; omega, by rw [List.length_append]; go_num, HLN.out, HZU.out, HNX.out⟩
              case measure => simp [intOf]; omega

            · go_simp
              refine hK.out _ _ trivial ?_
              clear hK K
              try simp only [Act.put, List.setIfInBounds_toArray]
              try simp only [List.set_cons_zero, List.set_cons_succ]
              refine one_ready 1 (by kernel_rfl) rfl (by rfl) (fun K hK => ?_)
              go_simp
              refine hK.out _ _ trivial ?_
              clear hK K
              try simp only [Act.put, List.setIfInBounds_toArray]
              try simp only [List.set_cons_zero, List.set_cons_succ]
              refine one_ready 5 (by kernel_rfl) rfl (by rfl) (fun K hK => ?_)
              refine wp_append_own _ _ _ 53 rfl w.heap.size 3 i1 (.int .i64 0) 1 8 Tryd.underlying53 hi1 hz10 hz11 hz12 rfl (by decide) _ _ _ rfl HLA.out.2.2.1 ⟨u.heap.size, 0, none⟩ 1 1 [.int .i64 (a : Int)] rfl rfl D1.out D2.out D3.out D4.out D5.out ?_
              intro v' w2 hown' hgrow _
              obtain ⟨oa2, oc2, rfl⟩ := own_form1 hown'
              have hbl := below_own HLA.out.2.2.2.2.2.1 hgrow D5.out HLA.out.2.2.1 (Nat.le_refl _)
              have HLN := Lib.hid (HLA.out.pushP a hgrow hown' hbl)
              have hH : w2.heap[HB]? = _ := (hgrow.block HB (lt_of_block HLA.out.2.1) (fun e => own_neR HLA.out.2.2.1 HLA.out.2.1 (by decide) e.symm)).trans HLA.out.2.1
              have cH := cell_of_row w2 HB 1 _ _ _ hH
              simp only [List.getElem?_toArray, List.getElem?_cons_zero, List.getElem?_cons_succ] at cH
              have fH := frozen_of_row w2 HB 1 _ _ hH
              clear hown' hgrow hbl hH
              refine hK.out _ _ trivial ?_
              clear hK K
              try simp only [Act.put, List.setIfInBounds_toArray]
              try simp only [List.set_cons_zero, List.set_cons_succ]
              refine take_val 6 (.pointer (some ⟨HB, 1, none⟩)) rfl (by kernel_rfl) (by kernel_rfl) (by kernel_rfl) (fun _ _ _ _ h => h) (by rfl) rfl (fun wz hS => by go_simp) trivial ?_
              try simp only [List.set_cons_zero, List.set_cons_succ]
              refine one_ready 7 (by kernel_rfl) rfl (by rfl) (fun K hK => ?_)
              go_simp
              refine hK.out _ _ trivial ?_
              clear hK K
              try simp only [Act.put, List.setIfInBounds_toArray]
              try simp only [List.set_cons_zero, List.set_cons_succ]
              refine wpAnyH_done (by kernel_rfl) ?_ _
              refine NoPanic.normal ?_
              go_wp2_with fail
              go_roundw
              case rel => exact ⟨l', b', oa2, oc2, P ++ [a], by rw [List.length_append]; simp; omega, by rw [List.length_append]; go_num, HLN.out, HZU.out, HNX.out⟩
              case measure => simp [intOf]; omega

        · have m1 : ¬ (P.length : Int) < (np : Int) := by omega
          have hpe : P.length = np := by omega
          have hp100 : P.length ≤ 100 := by omega
          have HPE := Lib.hid hpe
          clear hpe hlt
          go_wp2_with fail
          refine (rnumber_any R l b 20 wr (by omega) (by decide) HLD.out.1).mono ?_
          rintro e u7 ⟨n, l3, b3, rfl, hr, hbx, hz3, hp3⟩
          have HL7 := Lib.hid (HLD.out.call hbx hr)
          have hn20 : n ≤ 20 := by
            rcases hp3 with ⟨_, h, _⟩ | ⟨_, h, _⟩
            · exact (pNum_back (strN_lt l) h).1
            · omega
          have HSN0 := Lib.hid (SnS.start HPK.out HPE.out (show Prt (pNum 20) (strN l) b n (strN l3) b3 from hp3.imp (fun h => h) (fun h => ⟨h.1, h.2.2⟩)))
          have HZ3 : Hid (l3.size ≤ r0.size) := Nat.le_trans hz3 hzl
          clear hr hbx hz3 hp3 hzl
          go_wp2_with fail
          go_loopw [47] (fun kv wr => ∃ (l : ByteArray) (b : Bool) (sa : Option Addr) (sc : Nat) (S : List SM), S.length ≤ n ∧ kv = .int .i64 (S.length : Int) ∧ LD w wr R HB l b nx pa pc P sa sc S ∧ l.size ≤ r0.size ∧ SnS (strN r0) nx P n (S.map snOf) (strN l) b ∧ ∀ s ∈ S, s.1.size ≤ 1024 ∧ (∀ c ∈ idL s.2.2, c < 256) ∧ 0 ≤ s.2.1) (fun kv _ => n - (intOf kv).toNat)
          case atStart => exact ⟨l3, b3, none, 0, [], by simp, rfl, HL7.out, HZ3.out, HSN0.out, by simp⟩
          case round =>
            obtain ⟨l, b, sa, sc, S, hsl, rfl, hld, hzl, hsn, hall⟩ := hrel
            have HLD := Lib.hid hld
            have HSN := Lib.hid hsn
            have HALL := Lib.hid hall
            clear hld hsn hall HL7 HSN0
            by_cases hlt : S.length < n
            · have m2 : (S.length : Int) < (n : Int) := by omega
              go_wp2_with fail
              refine wp_region_noPanic ?_
              refine wp_region_held_drew (S := fun _ => True) (by kernel_rfl) trivial (fun _ => ?_)
              have HLD : Hid (LD w wr.drew R HB l b nx pa pc P sa sc S) := HLD.out.drew
              generalize wr.drew = wr at *
              obtain ⟨_, xw1, xw2, _⟩ := HLD.out.h
              refine take_val 0 (.pointer (some ⟨HB, 2, none⟩)) rfl (by kernel_rfl) (by kernel_rfl) (by kernel_rfl) (fun _ _ _ _ h => h) (by rfl) rfl (fun wz hS => by go_simp) trivial ?_
              try simp only [List.set_cons_zero, List.set_cons_succ]
              refine take_val 2 (.pointer (some ⟨R, 0, none⟩)) rfl (by kernel_rfl) (by kernel_rfl) (by kernel_rfl) (fun _ _ _ _ h => h) (by rfl) rfl (fun wz hS => by go_simp) trivial ?_
              try simp only [List.set_cons_zero, List.set_cons_succ]
              refine two_ready 1 3 (by kernel_rfl) rfl rfl (by rfl) (by rfl) (fun K hK => ?_) (fun K hK => ?_)
              · go_simp
                refine hK.out _ _ trivial ?_
                clear hK K
                try simp only [Act.put, List.setIfInBounds_toArray]
                try simp only [List.set_cons_zero, List.set_cons_succ]
                refine one_ready 3 (by kernel_rfl) rfl (by rfl) (fun K hK => ?_)
                go_simp
                refine (rsnap_any R l b wr (by omega) HLD.out.1).mono ?_
                rintro en u ⟨x, l', b', rfl, hr, hbx, hz, hp⟩
                obtain ⟨sm, hsv, hse, hs1, hs2, hs3, hpt⟩ := sn_mem hp
                rw [hsv]
                have HLU := Lib.hid (HLD.out.call hbx hr)
                have HNX0 := HSN.out.next (by rw [List.length_map]; exact hlt) hpt
                have HNX : Hid (SnS (strN r0) nx P n ((S ++ [sm]).map snOf) (strN l') b') := by show SnS _ _ _ _ _ _ _; rw [List.map_append]; exact HNX0
                have HZU : Hid (l'.size ≤ r0.size) := Nat.le_trans hz hzl
                have HAL : Hid (∀ s ∈ S ++ [sm], s.1.size ≤ 1024 ∧ (∀ c ∈ idL s.2.2, c < 256) ∧ 0 ≤ s.2.1) := fun s hs => by
                  rcases List.mem_append.1 hs with h | h
                  · exact HALL.out s h
                  · simp only [List.mem_singleton] at h
                    subst h
                    exact ⟨hs1, hs2, hs3⟩
                clear hr hbx hz hp hsv hse hs1 hs2 hs3 hpt HNX0
                obtain ⟨nm, tm, q0, q1, q2, q3, q4, q5, q6, q7⟩ := sm
                rw [show Value.agg (smC (nm, tm, q0, q1, q2, q3, q4, q5, q6, q7)).toArray = .agg #[.string nm, .int .i64 tm, bV q0, bV q1, bV q2, bV q3, bV q4, bV q5, bV q6, bV q7] from rfl]
                have D1 := Lib.hid (cells_new_at u u.heap.size rfl #[.string nm, .int .i64 tm, bV q0, bV q1, bV q2, bV q3, bV q4, bV q5, bV q6, bV q7] 63 [.string nm, .int .i64 tm, bV q0, bV q1, bV q2, bV q3, bV q4, bV q5, bV q6, bV q7] rfl)
                have D2 : Hid (∀ v ∈ ([.string nm, .int .i64 tm, bV q0, bV q1, bV q2, bV q3, bV q4, bV q5, bV q6, bV q7] : List Value), v.oneCell' = true) := by intro v hv; simp only [List.mem_cons, List.not_mem_nil, or_false] at hv; rcases hv with rfl | rfl | rfl | rfl | rfl | rfl | rfl | rfl | rfl | rfl <;> rfl
                have D3 : Hid (S.length + 1 ≤ maxLen) := by show _ ≤ _; unfold maxLen; omega
                have D4 : Hid ((S.length + 1) * 32 ≤ 140737488355328) := by show _ ≤ _; omega
                have D5 : Hid (w.heap.size ≤ (u.alloc (.cells #[.string nm, .int .i64 tm, bV q0, bV q1, bV q2, bV q3, bV q4, bV q5, bV q6, bV q7] 63)).heap.size) := by have := HLU.out.2.2.2.2.2.1.size; show _ ≤ _; simp; omega
                have HLA := Lib.hid (HLU.out.below ((Below.refl u.heap.size u).alloc (Nat.le_refl _) (.cells #[.string nm, .int .i64 tm, bV q0, bV q1, bV q2, bV q3, bV q4, bV q5, bV q6, bV q7] 63)))
                obtain ⟨_, xu1, xu2, _⟩ := HLU.out.h
                obtain ⟨_, xa1, xa2, _⟩ := HLA.out.h
                go_wp2_with fail
                refine hK.out _ _ trivial ?_
                clear hK K
                try simp only [Act.put, List.setIfInBounds_toArray]
                try simp only [List.set_cons_zero, List.set_cons_succ]
                refine one_ready 4 (by kernel_rfl) rfl (by rfl) (fun K hK => ?_)
                go_simp
                refine hK.out _ _ trivial ?_
                clear hK K
                try simp only [Act.put, List.setIfInBounds_toArray]
                try simp only [List.set_cons_zero, List.set_cons_succ]
                refine one_ready 5 (by kernel_rfl) rfl (by rfl) (fun K hK => ?_)
                refine wp_append_own _ _ _ 54 rfl w.heap.size 63 i2 (.agg #[.string ⟨#[]⟩, .int .i64 0, .int .u8 0, .int .u8 0, .int .u8 0, .int .u8 0, .int .u8 0, .int .u8 0, .int .u8 0, .int .u8 0]) 10 32 Tryd.underlying54 hi2 hz20 hz21 hz22 rfl (by decide) _ _ _ rfl HLA.out.2.2.2.1 ⟨u.heap.size, 0, none⟩ 1 1 [.string nm, .int .i64 tm, bV q0, bV q1, bV q2, bV q3, bV q4, bV q5, bV q6, bV q7] rfl rfl D1.out D2.out D3.out D4.out D5.out ?_
                intro v' w2 hown' hgrow _
                obtain ⟨oa2, oc2, rfl⟩ := own_form1 hown'
                have hbl := below_own HLA.out.2.2.2.2.2.1 hgrow D5.out HLA.out.2.2.2.1 (Nat.le_refl _)
                have HLN := Lib.hid (HLA.out.pushS (nm, tm, q0, q1, q2, q3, q4, q5, q6, q7) hgrow hown' hbl)
                have hH : w2.heap[HB]? = _ := (hgrow.block HB (lt_of_block HLA.out.2.1) (fun e => own_neR HLA.out.2.2.2.1 HLA.out.2.1 (by decide) e.symm)).trans HLA.out.2.1
                have cH := cell_of_row w2 HB 2 _ _ _ hH
                simp only [List.getElem?_toArray, List.getElem?_cons_zero, List.getElem?_cons_succ] at cH
                have fH := frozen_of_row w2 HB 2 _ _ hH
                clear hown' hgrow hbl hH
                refine hK.out _ _ trivial ?_
                clear hK K
                try simp only [Act.put, List.setIfInBounds_toArray]
                try simp only [List.set_cons_zero, List.set_cons_succ]
                refine take_val 6 (.pointer (some ⟨HB, 2, none⟩)) rfl (by kernel_rfl) (by kernel_rfl) (by kernel_rfl) (fun _ _ _ _ h => h) (by rfl) rfl (fun wz hS => by go_simp) trivial ?_
                try simp only [List.set_cons_zero, List.set_cons_succ]
                refine one_ready 7 (by kernel_rfl) rfl (by rfl) (fun K hK => ?_)
                go_simp
                refine hK.out _ _ trivial ?_
                clear hK K
                try simp only [Act.put, List.setIfInBounds_toArray]
                try simp only [List.set_cons_zero, List.set_cons_succ]
                refine wpAnyH_done (by kernel_rfl) ?_ _
                refine NoPanic.normal ?_
                go_wp2_with fail
                go_roundw
                case rel => exact ⟨l', b', oa2, oc2, S ++ [(nm, tm, q0, q1, q2, q3, q4, q5, q6, q7)], by rw [List.length_append]; simp; omega, by rw [List.length_append]; go_num, HLN.out, HZU.out, HNX.out, HAL.out⟩
                case measure => simp [intOf]; omega

              · go_simp
                refine (rsnap_any R l b wr (by omega) HLD.out.1).mono ?_
                rintro en u ⟨x, l', b', rfl, hr, hbx, hz, hp⟩
                obtain ⟨sm, hsv, hse, hs1, hs2, hs3, hpt⟩ := sn_mem hp
                rw [hsv]
                have HLU := Lib.hid (HLD.out.call hbx hr)
                have HNX0 := HSN.out.next (by rw [List.length_map]; exact hlt) hpt
                have HNX : Hid (SnS (strN r0) nx P n ((S ++ [sm]).map snOf) (strN l') b') := by show SnS _ _ _ _ _ _ _; rw [List.map_append]; exact HNX0
                have HZU : Hid (l'.size ≤ r0.size) := Nat.le_trans hz hzl
                have HAL : Hid (∀ s ∈ S ++ [sm], s.1.size ≤ 1024 ∧ (∀ c ∈ idL s.2.2, c < 256) ∧ 0 ≤ s.2.1) := fun s hs => by
                  rcases List.mem_append.1 hs with h | h
                  · exact HALL.out s h
                  · simp only [List.mem_singleton] at h
                    subst h
                    exact ⟨hs1, hs2, hs3⟩
                clear hr hbx hz hp hsv hse hs1 hs2 hs3 hpt HNX0
                obtain ⟨nm, tm, q0, q1, q2, q3, q4, q5, q6, q7⟩ := sm
                rw [show Value.agg (smC (nm, tm, q0, q1, q2, q3, q4, q5, q6, q7)).toArray = .agg #[.string nm, .int .i64 tm, bV q0, bV q1, bV q2, bV q3, bV q4, bV q5, bV q6, bV q7] from rfl]
                have D1 := Lib.hid (cells_new_at u u.heap.size rfl #[.string nm, .int .i64 tm, bV q0, bV q1, bV q2, bV q3, bV q4, bV q5, bV q6, bV q7] 63 [.string nm, .int .i64 tm, bV q0, bV q1, bV q2, bV q3, bV q4, bV q5, bV q6, bV q7] rfl)
                have D2 : Hid (∀ v ∈ ([.string nm, .int .i64 tm, bV q0, bV q1, bV q2, bV q3, bV q4, bV q5, bV q6, bV q7] : List Value), v.oneCell' = true) := by intro v hv; simp only [List.mem_cons, List.not_mem_nil, or_false] at hv; rcases hv with rfl | rfl | rfl | rfl | rfl | rfl | rfl | rfl | rfl | rfl <;> rfl
                have D3 : Hid (S.length + 1 ≤ maxLen) := by show _ ≤ _; unfold maxLen; omega
                have D4 : Hid ((S.length + 1) * 32 ≤ 140737488355328) := by show _ ≤ _; omega
                have D5 : Hid (w.heap.size ≤ (u.alloc (.cells #[.string nm, .int .i64 tm, bV q0, bV q1, bV q2, bV q3, bV q4, bV q5, bV q6, bV q7] 63)).heap.size) := by have := HLU.out.2.2.2.2.2.1.size; show _ ≤ _; simp; omega
                have HLA := Lib.hid (HLU.out.below ((Below.refl u.heap.size u).alloc (Nat.le_refl _) (.cells #[.string nm, .int .i64 tm, bV q0, bV q1, bV q2, bV q3, bV q4, bV q5, bV q6, bV q7] 63)))
                obtain ⟨_, xu1, xu2, _⟩ := HLU.out.h
                obtain ⟨_, xa1, xa2, _⟩ := HLA.out.h
                go_wp2_with fail
                refine hK.out _ _ trivial ?_
                clear hK K
                try simp only [Act.put, List.setIfInBounds_toArray]
                try simp only [List.set_cons_zero, List.set_cons_succ]
                refine two_ready 1 4 (by kernel_rfl) rfl rfl (by rfl) (by rfl) (fun K hK => ?_) (fun K hK => ?_)
                · go_simp
                  refine hK.out _ _ trivial ?_
                  clear hK K
                  try simp only [Act.put, List.setIfInBounds_toArray]
                  try simp only [List.set_cons_zero, List.set_cons_succ]
                  refine one_ready 4 (by kernel_rfl) rfl (by rfl) (fun K hK => ?_)
                  go_simp
                  refine hK.out _ _ trivial ?_
                  clear hK K
                  try simp only [Act.put, List.setIfInBounds_toArray]
                  try simp only [List.set_cons_zero, List.set_cons_succ]
                  refine one_ready 5 (by kernel_rfl) rfl (by rfl) (fun K hK => ?_)
                  refine wp_append_own _ _ _ 54 rfl w.heap.size 63 i2 (.agg #[.string ⟨#[]⟩, .int .i64 0, .int .u8 0, .int .u8 0, .int .u8 0, .int .u8 0, .int .u8 0, .int .u8 0, .int .u8 0, .int .u8 0]) 10 32 Tryd.underlying54 hi2 hz20 hz21 hz22 rfl (by decide) _ _ _ rfl HLA.out.2.2.2.1 ⟨u.heap.size, 0, none⟩ 1 1 [.string nm, .int .i64 tm, bV q0, bV q1, bV q2, bV q3, bV q4, bV q5, bV q6, bV q7] rfl rfl D1.out D2.out D3.out D4.out D5.out ?_
                  intro v' w2 hown' hgrow _
                  obtain ⟨oa2, oc2, rfl⟩ := own_form1 hown'
                  have hbl := below_own HLA.out.2.2.2.2.2.1 hgrow D5.out HLA.out.2.2.2.1 (Nat.le_refl _)
                  have HLN := Lib.hid (HLA.out.pushS (nm, tm, q0, q1, q2, q3, q4, q5, q6, q7) hgrow hown' hbl)
                  have hH : w2.heap[HB]? = _ := (hgrow.block HB (lt_of_block HLA.out.2.1) (fun e => own_neR HLA.out.2.2.2.1 HLA.out.2.1 (by decide) e.symm)).trans HLA.out.2.1
                  have cH := cell_of_row w2 HB 2 _ _ _ hH
                  simp only [List.getElem?_toArray, List.getElem?_cons_zero, List.getElem?_cons_succ] at cH
                  have fH := frozen_of_row w2 HB 2 _ _ hH
                  clear hown' hgrow hbl hH
                  refine hK.out _ _ trivial ?_
                  clear hK K
                  try simp only [Act.put, List.setIfInBounds_toArray]
                  try simp only [List.set_cons_zero, List.set_cons_succ]
                  refine take_val 6 (.pointer (some ⟨HB, 2, none⟩)) rfl (by kernel_rfl) (by kernel_rfl) (by kernel_rfl) (fun _ _ _ _ h => h) (by rfl) rfl (fun wz hS => by go_simp) trivial ?_
                  try simp only [List.set_cons_zero, List.set_cons_succ]
                  refine one_ready 7 (by kernel_rfl) rfl (by rfl) (fun K hK => ?_)
                  go_simp
                  refine hK.out _ _ trivial ?_
                  clear hK K
                  try simp only [Act.put, List.setIfInBounds_toArray]
                  try simp only [List.set_cons_zero, List.set_cons_succ]
                  refine wpAnyH_done (by kernel_rfl) ?_ _
                  refine NoPanic.normal ?_
                  go_wp2_with fail
                  go_roundw
                  case rel => exact ⟨l', b', oa2, oc2, S ++ [(nm, tm, q0, q1, q2, q3, q4, q5, q6, q7)], by rw [List.length_append]; simp; omega, by rw [List.length_append]; go_num, HLN.out, HZU.out, HNX.out, HAL.out⟩
                  case measure => simp [intOf]; omega

                · go_simp
                  refine hK.out _ _ trivial ?_
                  clear hK K
                  try simp only [Act.put, List.setIfInBounds_toArray]
                  try simp only [List.set_cons_zero, List.set_cons_succ]
                  refine one_ready 1 (by kernel_rfl) rfl (by rfl) (fun K hK => ?_)
                  go_simp
                  refine hK.out _ _ trivial ?_
                  clear hK K
                  try simp only [Act.put, List.setIfInBounds_toArray]
                  try simp only [List.set_cons_zero, List.set_cons_succ]
                  refine one_ready 5 (by kernel_rfl) rfl (by rfl) (fun K hK => ?_)
                  refine wp_append_own _ _ _ 54 rfl w.heap.size 63 i2 (.agg #[.string ⟨#[]⟩, .int .i64 0, .int .u8 0, .int .u8 0, .int .u8 0, .int .u8 0, .int .u8 0, .int .u8 0, .int .u8 0, .int .u8 0]) 10 32 Tryd.underlying54 hi2 hz20 hz21 hz22 rfl (by decide) _ _ _ rfl HLA.out.2.2.2.1 ⟨u.heap.size, 0, none⟩ 1 1 [.string nm, .int .i64 tm, bV q0, bV q1, bV q2, bV q3, bV q4, bV q5, bV q6, bV q7] rfl rfl D1.out D2.out D3.out D4.out D5.out ?_
                  intro v' w2 hown' hgrow _
                  obtain ⟨oa2, oc2, rfl⟩ := own_form1 hown'
                  have hbl := below_own HLA.out.2.2.2.2.2.1 hgrow D5.out HLA.out.2.2.2.1 (Nat.le_refl _)
                  have HLN := Lib.hid (HLA.out.pushS (nm, tm, q0, q1, q2, q3, q4, q5, q6, q7) hgrow hown' hbl)
                  have hH : w2.heap[HB]? = _ := (hgrow.block HB (lt_of_block HLA.out.2.1) (fun e => own_neR HLA.out.2.2.2.1 HLA.out.2.1 (by decide) e.symm)).trans HLA.out.2.1
                  have cH := cell_of_row w2 HB 2 _ _ _ hH
                  simp only [List.getElem?_toArray, List.getElem?_cons_zero, List.getElem?_cons_succ] at cH
                  have fH := frozen_of_row w2 HB 2 _ _ hH
                  clear hown' hgrow hbl hH
                  refine hK.out _ _ trivial ?_
                  clear hK K
                  try simp only [Act.put, List.setIfInBounds_toArray]
                  try simp only [List.set_cons_zero, List.set_cons_succ]
                  refine take_val 6 (.pointer (some ⟨HB, 2, none⟩)) rfl (by kernel_rfl) (by kernel_rfl) (by kernel_rfl) (fun _ _ _ _ h => h) (by rfl) rfl (fun wz hS => by go_simp) trivial ?_
                  try simp only [List.set_cons_zero, List.set_cons_succ]
                  refine one_ready 7 (by kernel_rfl) rfl (by rfl) (fun K hK => ?_)
                  go_simp
                  refine hK.out _ _ trivial ?_
                  clear hK K
                  try simp only [Act.put, List.setIfInBounds_toArray]
                  try simp only [List.set_cons_zero, List.set_cons_succ]
                  refine wpAnyH_done (by kernel_rfl) ?_ _
                  refine NoPanic.normal ?_
                  go_wp2_with fail
                  go_roundw
                  case rel => exact ⟨l', b', oa2, oc2, S ++ [(nm, tm, q0, q1, q2, q3, q4, q5, q6, q7)], by rw [List.length_append]; simp; omega, by rw [List.length_append]; go_num, HLN.out, HZU.out, HNX.out, HAL.out⟩
                  case measure => simp [intOf]; omega

            · have m2 : ¬ (S.length : Int) < (n : Int) := by omega
              have HDN := Lib.hid (HSN.out.done (by rw [List.length_map]; omega))
              obtain ⟨z0, z1, z2, _⟩ := HLD.out.h
              have HSP : Hid (SAt 1 nC wr pa (P.map (fun n : Nat => (n : Int)))) := by
                have h := HLD.out.2.2.1
                rw [show P.flatMap pC = (P.map (fun n : Nat => (n : Int))).flatMap nC by rw [List.flatMap_map]; rfl] at h
                obtain ⟨a', cap', e, _, _, hs⟩ := SAt.own (l := P.map (fun n : Nat => (n : Int))) (by rw [List.length_map]; exact h) nC_length
                injection e with e1 _ _
                subst e1
                exact hs
              have HSS : Hid (SAt 10 smC wr sa S) := by
                obtain ⟨a', cap', e, _, _, hs⟩ := SAt.own HLD.out.2.2.2.1 smC_length
                injection e with e1 _ _
                subst e1
                exact hs
              have HBW := Lib.hid HLD.out.2.2.2.2.2.1
              have HW := Lib.hid (rwrite_any (nx : Int) (P.map (fun n : Nat => (n : Int))) S pa sa pc sc wr HSP.out HSS.out (fun s hs => by have := (HALL.out s hs).1; omega) (fun s hs => (HALL.out s hs).2.1) (HT0.out.below HBW.out) (HM0.out.below HBW.out))
              rw [List.length_map] at HW
              have hs20 : S.length ≤ 20 := by omega
              clear hlt
              go_wp2_with fail
              refine HW.out.mono ?_
              rintro e u9 ⟨hres, hb9⟩
              have HL9 := Lib.hid (HLD.out.below hb9)
              have HSP9 := Lib.hid (HSP.out.below hb9)
              have HSS9 := Lib.hid (HSS.out.below hb9)
              have HC9 := Lib.hid HL9.out.2.2.2.2.1
              have HB9 := Lib.hid HL9.out.2.2.2.2.2.1
              obtain ⟨z0, z1, z2, _⟩ := HL9.out.h
              have hc1 := HL9.out.1.c1
              have HSAME : Hid (∀ nx' P' S', HWr nx' P' S' s → b = false ∧ HWr (nx : Int) (P.map (fun n : Nat => (n : Int))) S s) := fun nx' P' S' h => by
                obtain ⟨t, hx, hf, hsc⟩ := h.scan
                obtain ⟨e1, _⟩ := hsc HSN1.out
                have e2 : strN r0 = strN t := by simpa using e1
                rw [← e2] at hx
                obtain ⟨q1, rfl, rfl, rfl⟩ := rd_same HDN.out (fun s hs => (HALL.out s hs).2.2) h.1 hx
                exact ⟨q1, h⟩
              clear hb9 HW
              rcases hres with ⟨f, hwr, hf42, rfl⟩ | ⟨c, hc0, rfl, hno⟩
              · cases b with
                | true =>
                  have HNO : Hid (∀ nx P S, ¬ HWr nx P S s) := fun nx' P' S' h => by have := (HSAME.out _ _ _ h).1; cases this
                  have HTH : Hid (World.there u9 w.heap.size 0 (#[.int .i64 0, .slice none 0 0, .slice none 0 0] : Array Value).size) := (by have := there_row HC9.out; exact this)
                  go_wp2_with (with_reducible refine wpList_store_mid rfl 56 (.tmp 2) (.tmp 75) rfl w.heap.size 0 #[.int .i64 0, .slice none 0 0, .slice none 0 0] rfl rfl HTH.out HI.out HON.out ?_)
                  refine bodyPost_ret (results_row_tmp1 (p := 2) (q := 3) (ty := 56) rfl _ _ w.heap.size 56 #[.int .i64 0, .slice none 0 0, .slice none 0 0] (0, 0) _ rfl (setCells_full HC9.out #[.int .i64 0, .slice none 0 0, .slice none 0 0] rfl) Tryd.underlying56 rfl HI.out) rfl ?_
                  exact ⟨below_setCells (Nat.le_refl _) _ _ HB9.out, .inr ⟨4, by decide, rfl, HNO.out⟩⟩
                | false =>
                  by_cases hfs : f = s
                  · subst hfs
                    have e1 : (f.toList != f.toList) = false := by simp
                    have HWF := Lib.hid hwr
                    have HTH : Hid (World.there u9 w.heap.size 0 (#[.int .i64 (nx : Int), .slice pa P.length pc, .slice sa S.length sc] : Array Value).size) := (by have := there_row HC9.out; exact this)
                    have HI3 : Hid ((Tryd.prog.info? 56).map (·.size) = some (#[.int .i64 (nx : Int), .slice pa P.length pc, .slice sa S.length sc] : Array Value).size) := by show _ = _; kernel_rfl
                    have HON3 : Hid ((#[.int .i64 (nx : Int), .slice pa P.length pc, .slice sa S.length sc] : Array Value).all (·.oneCell') = true) := by show _ = _; simp [Value.oneCell']
                    have HBE := Lib.hid (below_setCells (Nat.le_refl _) (#[.int .i64 (nx : Int), .slice pa P.length pc, .slice sa S.length sc] : Array Value).toList 0 HB9.out)
                    have HSPE : Hid (SAt 1 nC (u9.setCells w.heap.size 0 (#[.int .i64 (nx : Int), .slice pa P.length pc, .slice sa S.length sc] : Array Value).toList) pa (P.map (fun n : Nat => (n : Int)))) := sat_otherC HSP9.out HC9.out (SAt.ownBlk HL9.out.2.2.1 (by decide) HC9.out) _
                    have HSSE : Hid (SAt 10 smC (u9.setCells w.heap.size 0 (#[.int .i64 (nx : Int), .slice pa P.length pc, .slice sa S.length sc] : Array Value).toList) sa S) := sat_otherC HSS9.out HC9.out (SAt.ownBlk HL9.out.2.2.2.1 (by decide) HC9.out) _
                    clear hwr
                    go_wp2_with (with_reducible refine wpList_store_mid rfl 56 (.tmp 2) (.tmp 76) rfl w.heap.size 0 #[.int .i64 (nx : Int), .slice pa P.length pc, .slice sa S.length sc] rfl rfl HTH.out HI3.out HON3.out ?_)
                    refine bodyPost_ret (results_row_tmp1 (p := 2) (q := 3) (ty := 56) rfl _ _ w.heap.size 56 #[.int .i64 (nx : Int), .slice pa P.length pc, .slice sa S.length sc] (0, 0) _ rfl (setCells_full HC9.out #[.int .i64 (nx : Int), .slice pa P.length pc, .slice sa S.length sc] rfl) Tryd.underlying56 rfl HI3.out) rfl ?_
                    exact ⟨HBE.out, .inl ⟨(nx : Int), P.map (fun n : Nat => (n : Int)), S, pa, pc, sa, sc, by rw [List.length_map]; rfl, HWF.out, HSPE.out, HSSE.out, fun s hs => ⟨(HALL.out s hs).1, (HALL.out s hs).2.1⟩, by rw [List.length_map]; exact hp100, hs20, (fun p hp => (HL9.out.2.2.1.lt p.block (by rw [hp]; rfl)).1), (fun p hp => (HL9.out.2.2.2.1.lt p.block (by rw [hp]; rfl)).1)⟩⟩
                  · have e1 : (f.toList == s.toList) = false := other_strB hfs
                    have e2 : (f.toList != s.toList) = true := by rw [bne, e1]; rfl
                    have HNO : Hid (∀ nx P S, ¬ HWr nx P S s) := fun nx' P' S' h => by
                      obtain ⟨_, h2⟩ := HSAME.out _ _ _ h
                      obtain ⟨t1, x1, y1, _⟩ := h2.scan
                      obtain ⟨t2, x2, y2, _⟩ := hwr.scan
                      have := x1.unique x2
                      rw [this] at y1
                      exact hfs (strN_inj (y2.unique y1))
                    have HTH : Hid (World.there u9 w.heap.size 0 (#[.int .i64 0, .slice none 0 0, .slice none 0 0] : Array Value).size) := (by have := there_row HC9.out; exact this)
                    go_wp2_with (with_reducible refine wpList_store_mid rfl 56 (.tmp 2) (.tmp 75) rfl w.heap.size 0 #[.int .i64 0, .slice none 0 0, .slice none 0 0] rfl rfl HTH.out HI.out HON.out ?_)
                    refine bodyPost_ret (results_row_tmp1 (p := 2) (q := 3) (ty := 56) rfl _ _ w.heap.size 56 #[.int .i64 0, .slice none 0 0, .slice none 0 0] (0, 0) _ rfl (setCells_full HC9.out #[.int .i64 0, .slice none 0 0, .slice none 0 0] rfl) Tryd.underlying56 rfl HI.out) rfl ?_
                    exact ⟨below_setCells (Nat.le_refl _) _ _ HB9.out, .inr ⟨4, by decide, rfl, HNO.out⟩⟩
              · have f1 : (c != 0) = true := by simpa using hc0
                have HNO : Hid (∀ nx P S, ¬ HWr nx P S s) := fun nx' P' S' h => hno s (HSAME.out _ _ _ h).2
                cases b with
                | true =>
                  have HTH : Hid (World.there u9 w.heap.size 0 (#[.int .i64 0, .slice none 0 0, .slice none 0 0] : Array Value).size) := (by have := there_row HC9.out; exact this)
                  go_wp2_with (with_reducible refine wpList_store_mid rfl 56 (.tmp 2) (.tmp 75) rfl w.heap.size 0 #[.int .i64 0, .slice none 0 0, .slice none 0 0] rfl rfl HTH.out HI.out HON.out ?_)
                  refine bodyPost_ret (results_row_tmp1 (p := 2) (q := 3) (ty := 56) rfl _ _ w.heap.size 56 #[.int .i64 0, .slice none 0 0, .slice none 0 0] (0, 0) _ rfl (setCells_full HC9.out #[.int .i64 0, .slice none 0 0, .slice none 0 0] rfl) Tryd.underlying56 rfl HI.out) rfl ?_
                  exact ⟨below_setCells (Nat.le_refl _) _ _ HB9.out, .inr ⟨4, by decide, rfl, HNO.out⟩⟩
                | false =>
                  have HTH : Hid (World.there u9 w.heap.size 0 (#[.int .i64 0, .slice none 0 0, .slice none 0 0] : Array Value).size) := (by have := there_row HC9.out; exact this)
                  go_wp2_with (with_reducible refine wpList_store_mid rfl 56 (.tmp 2) (.tmp 75) rfl w.heap.size 0 #[.int .i64 0, .slice none 0 0, .slice none 0 0] rfl rfl HTH.out HI.out HON.out ?_)
                  refine bodyPost_ret (results_row_tmp1 (p := 2) (q := 3) (ty := 56) rfl _ _ w.heap.size 56 #[.int .i64 0, .slice none 0 0, .slice none 0 0] (0, 0) _ rfl (setCells_full HC9.out #[.int .i64 0, .slice none 0 0, .slice none 0 0] rfl) Tryd.underlying56 rfl HI.out) rfl ?_
                  exact ⟨below_setCells (Nat.le_refl _) _ _ HB9.out, .inr ⟨4, by decide, rfl, HNO.out⟩⟩
    · have m1 : (rs.length : Int) = 1 := by omega
      have m2 : ((p : Int) != (s.size : Int)) = true := by simp; omega
      have m3 : ((p : Int) == (s.size : Int)) = false := by simp; omega
      have m1' : ((rs.length : Int) != 1) = false := by rw [m1]; rfl
      have HNO : Hid (∀ nx P S, ¬ HWr nx P S s) := fun nx P S h => by
        obtain ⟨t, _, _, hsc⟩ := h.scan
        exact hp (hsc HSN.out).2
      have HTH : Hid (World.there w1 w.heap.size 0 (#[.int .i64 0, .slice none 0 0, .slice none 0 0] : Array Value).size) := (by have := there_row HC1.out; exact this)
      go_wp2_with (with_reducible refine wpList_store_mid rfl 56 (.tmp 2) (.tmp 24) rfl w.heap.size 0 #[.int .i64 0, .slice none 0 0, .slice none 0 0] rfl rfl HTH.out HI.out HON.out ?_)
      refine bodyPost_ret (results_row_tmp1 (p := 2) (q := 3) (ty := 56) rfl _ _ w.heap.size 56 #[.int .i64 0, .slice none 0 0, .slice none 0 0] (0, 0) _ rfl (setCells_full HC1.out #[.int .i64 0, .slice none 0 0, .slice none 0 0] rfl) Tryd.underlying56 rfl HI.out) rfl ?_
      exact ⟨below_setCells (Nat.le_refl _) _ _ HB1.out, .inr ⟨4, by decide, rfl, HNO.out⟩⟩
  · have m1 : ((rs.length : Int) != 1) = true := by simp; omega
    have m1' : ((rs.length : Int) == 1) = false := by simp; omega
    have HNO : Hid (∀ nx P S, ¬ HWr nx P S s) := fun nx P S h => by
      obtain ⟨t, _, _, hsc⟩ := h.scan
      have := (hsc HSN.out).1
      have := congrArg List.length this
      rw [List.length_map] at this
      exact h1 this
    have HTH : Hid (World.there w1 w.heap.size 0 (#[.int .i64 0, .slice none 0 0, .slice none 0 0] : Array Value).size) := (by have := there_row HC1.out; exact this)
    go_wp2_with (with_reducible refine wpList_store_mid rfl 56 (.tmp 2) (.tmp 24) rfl w.heap.size 0 #[.int .i64 0, .slice none 0 0, .slice none 0 0] rfl rfl HTH.out HI.out HON.out ?_)
    refine bodyPost_ret (results_row_tmp1 (p := 2) (q := 3) (ty := 56) rfl _ _ w.heap.size 56 #[.int .i64 0, .slice none 0 0, .slice none 0 0] (0, 0) _ rfl (setCells_full HC1.out #[.int .i64 0, .slice none 0 0, .slice none 0 0] rfl) Tryd.underlying56 rfl HI.out) rfl ?_
    exact ⟨below_setCells (Nat.le_refl _) _ _ HB1.out, .inr ⟨4, by decide, rfl, HNO.out⟩⟩
end Go.Proofs.YtinjnclpiiohcaaDoor
