/- The reader's class. Printed by gen_globclass.py. -/
import Derived.Test.YtokckcmkbnhhhaaDoorGlobRd
import Derived.Test.YtokckcmkbnhhhaaDoorWords
import Derived.Test.YtokckcmkbnhhhaaDoorStoreNew
import Derived.Test.YtokckcmkbnhhhaaDoorResults
namespace Go.Proofs.YtokckcmkbnhhhaaDoor
open Go.RowKit Plain
set_option linter.unusedVariables false
set_option linter.unusedSimpArgs false
theorem row_thereG {w : World} {b : Nat} {t : TypeId} {cs : Array Value} (h : w.heap[b]? = some (.cells cs t (0, 0))) : w.there b 0 cs.size := fun j hj => by
  rw [Nat.zero_add, cell_of_row _ _ _ _ _ _ h, Array.getElem?_eq_getElem hj]
  exact ⟨rfl, frozen_of_row _ _ _ _ _ h⟩
theorem bx_setCells2 {R : Nat} {a b : World} {N : Nat} (h : BX R a b) (hN : a.heap.size ≤ N) (vs : List Value) (o : Nat) : BX R a (b.setCells N o vs) :=
  ⟨below_setCells (Nat.zero_le _) vs o h.1, fun k hk hne => (heap_setCells_other N k (by omega) vs o b).trans (h.2 k hk hne)⟩
theorem RG.setNs {w : World} {R : Nat} {l : List Nat} (h : RG w R l) {N : Nat} (hN : R < N) (vs : List Value) (o : Nat) : RG (w.setCells N o vs) R l := h.keep (by rw [(setCells_frame N vs o w).2]; exact Nat.le_refl _) fun k hk => heap_setCells_other N k (by omega) vs o w
theorem own_setNs {w : World} {base N : Nat} {t t' : TypeId} {k n : Nat} {v : Value} {xs : List Value} {cs : Array Value} (h : w.ownsRow base t k v n xs) (hN : w.heap[N]? = some (.cells cs t' (0, 0))) (ht : t ≠ t') (vs : List Value) (o : Nat) : (w.setCells N o vs).ownsRow base t k v n xs := by
  have hne := own_neG h hN ht
  refine ⟨h.1, ?_⟩
  rcases h.2 with hv | ⟨g, cap, cur, hv, hB, hg, h3⟩
  · exact .inl hv
  · exact .inr ⟨g, cap, cur, hv, hB, (heap_setCells_other N g (fun e => hne (by rw [hv, e]; rfl)) vs o w).trans hg, h3⟩
theorem one3 (oa : Option Addr) (n c : Nat) (b : Bool) : (#[.int .i64 0, .slice oa n c, .bool b] : Array Value).all (·.oneCell') = true := by simp [Value.oneCell']
def clsR (ng : Bool) : Option (List Sp × List Nat) → Option (El × List Nat)
  | none => none
  | some (S, m) => some ((0, S, ng), m)
theorem classP_clsR (l : List Nat) : classP l = clsR (takeP 94 l).1 (classR [] (takeP 94 l).2) := by
  unfold classP
  cases classR [] (takeP 94 l).2 with
  | none => rfl
  | some x => rfl
def goS (S : List Sp) : Option (Sp × List Nat) → Option (List Sp × List Nat)
  | none => none
  | some (s, m) => classR (S ++ [s]) m
theorem classR_go {S : List Sp} {l : List Nat} (h : ¬ (S ≠ [] ∧ (takeP 93 l).1 = true)) : classR S l = goS S (spanP l) := by
  rw [classR_eq, if_neg h]
  cases spanP l with
  | none => rfl
  | some x => rfl
def lenR (w : World) (R : Nat) : Nat := match w.cell? ⟨R, 0, none⟩ with
  | some (.slice _ n _) => n
  | _ => 0
theorem RG.len {w : World} {R : Nat} {l : List Nat} (h : RG w R l) : lenR w R = l.length := by
  obtain ⟨a, c, h1, _⟩ := h
  unfold lenR
  rw [cell_of_row _ _ 0 _ _ _ h1]
  rfl
def ClEnd (R : Nat) (l : List Nat) (w0 : World) (e : Ending) (w : World) : Prop := BX R w0 w ∧ ∃ (oa : Option Addr) (oc : Nat) (S : List Sp) (ng ok : Bool), e = .returned (.tuple #[.agg #[.int .i64 0, .slice oa S.length oc, .bool ng], .bool ok]) ∧
  ((ok = false ∧ classP l = none) ∨ (ok = true ∧ ∃ m, classP l = some ((0, S, ng), m) ∧ RG w R m ∧ w.ownsRow w0.heap.size 149 2 (.slice oa S.length oc) S.length (S.flatMap spC)))
set_option maxRecDepth 100000 in
set_option maxHeartbeats 8000000 in
theorem gclass_any (R : Nat) (l : List Nat) (w : World) (h : RG w R l) (hl : l.length ≤ 1000000) : Calls Tryd.prog 96 #[.pointer (some ⟨R, 0, none⟩)] w (ClEnd R l w) := by
  obtain ⟨iS, hiS, hzS, hyS, hbS⟩ := info_parts info_sp
  have HI3 : Hid (∀ (oa : Option Addr) (n c : Nat) (b : Bool), (Tryd.prog.info? 152).map (·.size) = some (#[.int .i64 0, .slice oa n c, .bool b] : Array Value).size) := Lib.hid (fun _ _ _ _ => by kernel_rfl)
  have ICT : Hid ((Tryd.prog.info? 152).map (·.size) = some 3) := Lib.hid (by kernel_rfl)
  have HRW := Lib.hid h.lt
  have hba := (Below.refl w.heap.size w).alloc (Nat.le_refl _) (.cells #[.int .i64 0, .slice none 0 0, .bool false] 152)
  have HTK := Lib.hid (gtake_any R l 94 94 rfl _ (h.below hba))
  have HZ0 := Lib.hid (heap_alloc_new w (.cells #[.int .i64 0, .slice none 0 0, .bool false] 152))
  have HB0 := Lib.hid (BX.of_below (R := R) hba)
  clear h hba
  go_enter Tryd.func96, Tryd.ntmps96
  go_wp2_with fail
  refine HTK.out.mono ?_
  rintro e w1 ⟨hb, rfl, hg⟩
  obtain ⟨ng, hng⟩ : ∃ b, (takeP 94 l).1 = b := ⟨_, rfl⟩
  obtain ⟨l1, hl1⟩ : ∃ m, (takeP 94 l).2 = m := ⟨_, rfl⟩
  have hl1l : l1.length ≤ l.length := by rw [← hl1]; exact takeP_le 94 l
  have HCP : Hid (classP l = clsR ng (classR [] l1)) := Lib.hid (by rw [classP_clsR, hng, hl1])
  rw [hng]
  rw [hl1] at hg
  have HRG1 := Lib.hid hg
  have HB1 := Lib.hid (HB0.out.trans hb)
  have HZ1 := Lib.hid (hb.block (by have := HRW.out; omega) HZ0.out)
  have hwX : w.heap.size < w1.heap.size := lt_of_block HZ1.out
  clear hb hg hng hl1 HTK HZ0 HB0
  obtain ⟨X, hX⟩ : ∃ X, w1.heap.size = X := ⟨_, rfl⟩
  have HXW : Hid (w.heap.size < X) := Lib.hid (by omega)
  have HA := Lib.hid ((Below.refl w1.heap.size w1).alloc (Nat.le_refl _) (.cells #[.int .i64 0, .slice none 0 0, .bool ng] 152))
  have HRG2 := Lib.hid (HRG1.out.below HA.out)
  have HB2 := Lib.hid (HB1.out.step HA.out)
  have HZ2 := Lib.hid ((HA.out.block _ (lt_of_block HZ1.out)).trans HZ1.out)
  have HX2 : Hid ((w1.alloc (.cells #[.int .i64 0, .slice none 0 0, .bool ng] 152)).heap[X]? = some (.cells #[.int .i64 0, .slice none 0 0, .bool ng] 152 (0, 0))) := Lib.hid (by rw [← hX]; exact heap_alloc_new w1 _)
  clear HRG1 HB1 HZ1 HA
  go_wp2_with fail
  generalize w1.alloc (.cells #[.int .i64 0, .slice none 0 0, .bool ng] 152) = w2 at *
  clear hX hwX
  go_loopw [5] (fun _ wr => ∃ (S : List Sp) (l' : List Nat) (oa : Option Addr) (oc : Nat), RG wr R l' ∧ wr.heap[X]? = some (.cells #[.int .i64 0, .slice oa S.length oc, .bool ng] 152 (0, 0)) ∧ wr.heap[w.heap.size]? = some (.cells #[.int .i64 0, .slice none 0 0, .bool false] 152 (0, 0)) ∧ wr.ownsRow w.heap.size 149 2 (.slice oa S.length oc) S.length (S.flatMap spC) ∧ BX R w wr ∧ classR S l' = classR [] l1 ∧ S.length + l'.length ≤ l1.length) (fun _ wr => lenR wr R)
  case atStart => exact ⟨[], l1, none, 0, HRG2.out, HX2.out, HZ2.out, World.ownsRow_nil _ _ _ _, HB2.out, rfl, by simp⟩
  case round =>
    obtain ⟨S, l', oa, oc, hg, hX, hZ, hO, hB, hres, hsz⟩ := hrel
    have HLEN := Lib.hid hg.len
    have HRES := Lib.hid hres
    have HSZ := Lib.hid hsz
    have cx1 := cell_of_row _ X 1 _ _ _ hX
    simp only [List.getElem?_toArray, List.getElem?_cons_succ, List.getElem?_cons_zero] at cx1
    have HTK := Lib.hid (gtake_any R l' 93 93 rfl wr hg)
    have HRGr := Lib.hid hg
    have HXr := Lib.hid hX
    have HZr := Lib.hid hZ
    have HOr := Lib.hid hO
    have HBr := Lib.hid hB
    clear hg hX hZ hO hB hres hsz HX2 HZ2 HRG2 HB2
    by_cases hS0 : S = []
    · have hSl : S.length = 0 := by rw [hS0]; rfl
      have HCQ : Hid (classR S l' = goS S (spanP l')) := Lib.hid (classR_go (fun h => h.1 hS0))
      have HRV := HRGr
      have HIT := Lib.hid (gitem_any R l' wr HRV.out)
      have HBV := HBr
      have HXV := HXr
      have HZV := HZr
      have HOV := HOr
      have zS : (S.length : Int) = 0 := by omega
      clear HTK HRGr HBr HXr HZr HOr hS0
      go_wp2_with fail
      refine HIT.out.mono ?_
      clear hSl zS
      rintro e u ⟨hb, hl⟩
      have HBX := Lib.hid (HBV.out.trans hb)
      have HX := Lib.hid (hb.block (by have := HXW.out; have := HRW.out; omega) HXV.out)
      have HZ := Lib.hid (hb.block (by have := HRW.out; omega) HZV.out)
      have HOWN := Lib.hid (hb.own HOV.out (fun e => by have := (HOV.out.lt R e).1; have := HRW.out; omega))
      cases hit : itemP l' with
      | none =>
        rw [hit] at hl
        subst hl
        have HFN : Hid (classR [] l1 = none) := Lib.hid (by rw [← HRES.out, HCQ.out]; unfold spanP; rw [hit]; rfl)
        clear hb HIT hit
        have HTH : Hid (u.there w.heap.size 0 (#[.int .i64 0, .slice oa S.length oc, .bool ng] : Array Value).size) := Lib.hid (show u.there w.heap.size 0 3 from row_thereG HZ.out)
        have HOC : Hid ((#[.int .i64 0, .slice oa S.length oc, .bool ng] : Array Value).all (·.oneCell') = true) := Lib.hid (one3 _ _ _ _)
        go_wp2_with (first | (with_reducible refine wpList_load_row rfl 152 (.tmp 4) rfl X rfl 152 #[.int .i64 0, .slice oa S.length oc, .bool ng] (0, 0) _ HX.out Tryd.underlying152 rfl (HI3.out oa S.length oc ng) ?_) | (with_reducible refine wpList_store_mid rfl 152 (.tmp 2) (.tmp 27) rfl w.heap.size 0 #[.int .i64 0, .slice oa S.length oc, .bool ng] rfl rfl HTH.out (HI3.out oa S.length oc ng) HOC.out ?_))
        (try simp only [Exit.inBlock, Exit.then])
        refine bodyPost_ret (results_row_tmp1 (p := 2) (q := 3) (ty := 152) rfl _ _ w.heap.size 152 #[.int .i64 0, .slice oa S.length oc, .bool ng] (0, 0) _ rfl (setCells_full HZ.out #[.int .i64 0, .slice oa S.length oc, .bool ng] rfl) Tryd.underlying152 rfl (HI3.out oa S.length oc ng)) rfl ?_
        exact ⟨bx_setCells2 HBX.out (Nat.le_refl _) _ 0, oa, oc, S, ng, false, rfl, .inl ⟨rfl, by rw [HCP.out, HFN.out]; rfl⟩⟩
      | some y =>
        obtain ⟨f, l3⟩ := y
        rw [hit] at hl
        obtain ⟨rfl, hg⟩ := hl
        have hlt3 := itemP_lt hit
        have HIP := Lib.hid hit
        have HTK := Lib.hid (gtake_any R l3 45 45 rfl u hg)
        clear hb HIT hg hit HRV HBV HXV HZV HOV
        go_wp2_with fail
        refine HTK.out.mono ?_
        rintro e v ⟨hb, rfl, hg⟩
        have HBX2 := Lib.hid (HBX.out.trans hb)
        have HX2 := Lib.hid (hb.block (by have := HXW.out; have := HRW.out; omega) HX.out)
        have HZ2 := Lib.hid (hb.block (by have := HRW.out; omega) HZ.out)
        have HOWN2 := Lib.hid (hb.own HOWN.out (fun e => by have := (HOWN.out.lt R e).1; have := HRW.out; omega))
        have hle4 := takeP_le 45 l3
        clear hb HBX HX HZ HOWN HTK
        cases ht45 : (takeP 45 l3).1 with
        | false =>
          have HSP : Hid (spanP l' = some ((f, f), l3)) := Lib.hid (by unfold spanP; rw [HIP.out]; simp only; rw [if_neg (by rw [ht45]; decide)])
          have hl3 : (takeP 45 l3).2 = l3 := by
            cases l3 with
            | nil => rfl
            | cons y l3 =>
              unfold takeP at ht45 ⊢
              simp only at ht45 ⊢
              split at ht45
              · cases ht45
              · rw [if_neg (by assumption)]
          rw [hl3] at hg
          have HCL : Hid (classR (S ++ [(f, f)]) l3 = classR [] l1) := Lib.hid (by rw [← HRES.out, HCQ.out, HSP.out]; rfl)
          have HRG := Lib.hid hg
          have HBX := HBX2
          have HX := HX2
          have HZ := HZ2
          have HOWN := HOWN2
          have HLT : Hid (l3.length < l'.length) := Lib.hid (by omega)
          clear ht45 hl3 hg HIP HSP HBX2 HX2 HZ2 HOWN2
          have D1 := Lib.hid (cells_new_at v v.heap.size rfl #[.int .i32 (f : Int), .int .i32 (f : Int)] 149 (spC (f, f)) rfl)
          have D2 := Lib.hid (spC_one (f, f))
          have D3 : Hid (S.length + 1 ≤ maxLen) := Lib.hid (by have := HSZ.out; unfold maxLen; omega)
          have D4 : Hid ((S.length + 1) * 8 ≤ 140737488355328) := Lib.hid (by have := HSZ.out; omega)
          have D5 : Hid (w.heap.size ≤ (v.alloc (.cells #[.int .i32 (f : Int), .int .i32 (f : Int)] 149)).heap.size) := Lib.hid (by have := HBX.out.1.size; simp; omega)
          have HUA := Lib.hid ((Below.refl v.heap.size v).alloc (Nat.le_refl _) (.cells #[.int .i32 (f : Int), .int .i32 (f : Int)] 149))
          have HXA := Lib.hid ((HUA.out.block _ (lt_of_block HX.out)).trans HX.out)
          have HZA := Lib.hid ((HUA.out.block _ (lt_of_block HZ.out)).trans HZ.out)
          have HRA := Lib.hid (HRG.out.below HUA.out)
          have HOA := Lib.hid (own_belowG HOWN.out HUA.out)
          have HXG : Hid (∀ w2, (v.alloc (.cells #[.int .i32 (f : Int), .int .i32 (f : Int)] 149)).grownBy w2 (Value.slice oa S.length oc).ownBlock → w2.heap[X]? = some (.cells #[.int .i64 0, .slice oa S.length oc, .bool ng] 152 (0, 0))) := Lib.hid fun w2 hg => (hg.block X (lt_of_block HXA.out) (fun e => own_neG HOA.out HXA.out (by decide) e.symm)).trans HXA.out
          have cx1 := cell_of_row _ X 1 _ _ _ HX.out
          simp only [List.getElem?_toArray, List.getElem?_cons_succ, List.getElem?_cons_zero] at cx1
          go_wp2_with (at_builtin; refine wpList_append_own _ rfl _ _ 150 rfl w.heap.size 149 iS (.agg #[.int .i32 0, .int .i32 0]) 2 8 Tryd.underlying150 hiS hzS hyS hbS rfl (by decide) _ _ _ rfl HOA.out ⟨v.heap.size, 0, none⟩ 1 1 (spC (f, f)) rfl rfl D1.out D2.out D3.out D4.out D5.out ?_)
          intro v' w2 hown' hgrow _
          obtain ⟨oa2, oc2, rfl⟩ := own_formG hown'
          have hX2 := HXG.out w2 hgrow
          have hZ2 := (hgrow.block _ (lt_of_block HZA.out) (fun e => own_neG HOA.out HZA.out (by decide) e.symm)).trans HZA.out
          have hgt : ∀ k, (Value.slice oa S.length oc).ownBlock = some k → w.heap.size ≤ k := fun k hk => (HOA.out.lt k hk).1
          have hR2 := HRA.out.grown hgrow (fun k hk => by have := hgt k hk; have := HRW.out; omega)
          have hB2 := bx_grown (HBX.out.step HUA.out) hgrow hgt
          have cx2 := cell_of_row _ X 1 _ _ _ hX2
          simp only [List.getElem?_toArray, List.getElem?_cons_succ, List.getElem?_cons_zero] at cx2
          have fx2 := frozen_of_row _ X 1 _ _ hX2
          have hSl : (S ++ [(f, f)]).length = S.length + 1 := by simp
          have HX3 : Hid ((w2.setCell ⟨X, 1, none⟩ (.slice oa2 (S.length + 1) oc2)).heap[X]? = some (.cells #[.int .i64 0, .slice oa2 (S ++ [(f, f)]).length oc2, .bool ng] 152 (0, 0))) := Lib.hid (by rw [row_set hX2, hSl]; rfl)
          have HZ3 : Hid ((w2.setCell ⟨X, 1, none⟩ (.slice oa2 (S.length + 1) oc2)).heap[w.heap.size]? = some (.cells #[.int .i64 0, .slice none 0 0, .bool false] 152 (0, 0))) := Lib.hid ((heap_setCell_other w2 ⟨X, 1, none⟩ w.heap.size _ (by have := HXW.out; show w.heap.size ≠ X; omega)).trans hZ2)
          have HR3 := Lib.hid (hR2.setN (N := X) (by have := HXW.out; have := HRW.out; omega) 1 (.slice oa2 (S.length + 1) oc2))
          have HB3 := Lib.hid (bx_set hB2 (N := X) (by have := HXW.out; omega) 1 (.slice oa2 (S.length + 1) oc2))
          have HO3 : Hid ((w2.setCell ⟨X, 1, none⟩ (.slice oa2 (S.length + 1) oc2)).ownsRow w.heap.size 149 2 (.slice oa2 (S ++ [(f, f)]).length oc2) (S ++ [(f, f)]).length ((S ++ [(f, f)]).flatMap spC)) := Lib.hid (by
            have h1 := ownsRow_setCell_other hown' (a := ⟨X, 1, none⟩) (fun e => own_neG hown' hX2 (by decide) e) (.slice oa2 (S.length + 1) oc2)
            rw [hSl, List.flatMap_append, List.flatMap_singleton]
            exact h1)
          clear hown' hgrow hX2 hZ2 hgt hR2 hB2
          go_wp2_with fail
          go_roundw
          case rel => exact ⟨S ++ [(f, f)], l3, oa2, oc2, HR3.out, HX3.out, HZ3.out, HO3.out, HB3.out, HCL.out, by rw [hSl]; have := HSZ.out; omega⟩
          case measure => rw [HR3.out.len, HLEN.out]; have := HLT.out; omega
        | true =>
          have HIT2 := Lib.hid (gitem_any R (takeP 45 l3).2 v hg)
          clear hg
          go_wp2_with fail
          refine HIT2.out.mono ?_
          rintro e u2 ⟨hb, hl⟩
          have HBX := Lib.hid (HBX2.out.trans hb)
          have HX := Lib.hid (hb.block (by have := HXW.out; have := HRW.out; omega) HX2.out)
          have HZ := Lib.hid (hb.block (by have := HRW.out; omega) HZ2.out)
          have HOWN := Lib.hid (hb.own HOWN2.out (fun e => by have := (HOWN2.out.lt R e).1; have := HRW.out; omega))
          clear HBX2 HX2 HZ2 HOWN2 hb HIT2
          cases hit : itemP (takeP 45 l3).2 with
          | none =>
            rw [hit] at hl
            subst hl
            have HFN : Hid (classR [] l1 = none) := Lib.hid (by rw [← HRES.out, HCQ.out]; unfold spanP; rw [HIP.out]; simp only; rw [if_pos ht45, hit]; rfl)
            clear hit ht45 HIP
            have HTH : Hid (u2.there w.heap.size 0 (#[.int .i64 0, .slice oa S.length oc, .bool ng] : Array Value).size) := Lib.hid (show u2.there w.heap.size 0 3 from row_thereG HZ.out)
            have HOC : Hid ((#[.int .i64 0, .slice oa S.length oc, .bool ng] : Array Value).all (·.oneCell') = true) := Lib.hid (one3 _ _ _ _)
            go_wp2_with (first | (with_reducible refine wpList_load_row rfl 152 (.tmp 4) rfl X rfl 152 #[.int .i64 0, .slice oa S.length oc, .bool ng] (0, 0) _ HX.out Tryd.underlying152 rfl (HI3.out oa S.length oc ng) ?_) | (with_reducible refine wpList_store_mid rfl 152 (.tmp 2) (.tmp 43) rfl w.heap.size 0 #[.int .i64 0, .slice oa S.length oc, .bool ng] rfl rfl HTH.out (HI3.out oa S.length oc ng) HOC.out ?_))
            (try simp only [Exit.inBlock, Exit.then])
            refine bodyPost_ret (results_row_tmp1 (p := 2) (q := 3) (ty := 152) rfl _ _ w.heap.size 152 #[.int .i64 0, .slice oa S.length oc, .bool ng] (0, 0) _ rfl (setCells_full HZ.out #[.int .i64 0, .slice oa S.length oc, .bool ng] rfl) Tryd.underlying152 rfl (HI3.out oa S.length oc ng)) rfl ?_
            exact ⟨bx_setCells2 HBX.out (Nat.le_refl _) _ 0, oa, oc, S, ng, false, rfl, .inl ⟨rfl, by rw [HCP.out, HFN.out]; rfl⟩⟩
          | some z =>
            obtain ⟨t, m⟩ := z
            rw [hit] at hl
            obtain ⟨rfl, hg⟩ := hl
            have hlt4 := itemP_lt hit
            have HRG := Lib.hid hg
            by_cases htf : t < f
            · have c1 : (t : Int) < (f : Int) := by omega
              have HFN : Hid (classR [] l1 = none) := Lib.hid (by rw [← HRES.out, HCQ.out]; unfold spanP; rw [HIP.out]; simp only; rw [if_pos ht45, hit]; simp only; rw [if_pos htf]; rfl)
              clear hit ht45 hg HRG HIP htf
              have HTH : Hid (u2.there w.heap.size 0 (#[.int .i64 0, .slice oa S.length oc, .bool ng] : Array Value).size) := Lib.hid (show u2.there w.heap.size 0 3 from row_thereG HZ.out)
              have HOC : Hid ((#[.int .i64 0, .slice oa S.length oc, .bool ng] : Array Value).all (·.oneCell') = true) := Lib.hid (one3 _ _ _ _)
              go_wp2_with (first | (with_reducible refine wpList_load_row rfl 152 (.tmp 4) rfl X rfl 152 #[.int .i64 0, .slice oa S.length oc, .bool ng] (0, 0) _ HX.out Tryd.underlying152 rfl (HI3.out oa S.length oc ng) ?_) | (with_reducible refine wpList_store_mid rfl 152 (.tmp 2) (.tmp 43) rfl w.heap.size 0 #[.int .i64 0, .slice oa S.length oc, .bool ng] rfl rfl HTH.out (HI3.out oa S.length oc ng) HOC.out ?_))
              (try simp only [Exit.inBlock, Exit.then])
              refine bodyPost_ret (results_row_tmp1 (p := 2) (q := 3) (ty := 152) rfl _ _ w.heap.size 152 #[.int .i64 0, .slice oa S.length oc, .bool ng] (0, 0) _ rfl (setCells_full HZ.out #[.int .i64 0, .slice oa S.length oc, .bool ng] rfl) Tryd.underlying152 rfl (HI3.out oa S.length oc ng)) rfl ?_
              exact ⟨bx_setCells2 HBX.out (Nat.le_refl _) _ 0, oa, oc, S, ng, false, rfl, .inl ⟨rfl, by rw [HCP.out, HFN.out]; rfl⟩⟩
            · have c1 : ¬ (t : Int) < (f : Int) := by omega
              have HCL : Hid (classR (S ++ [(f, t)]) m = classR [] l1) := Lib.hid (by rw [← HRES.out, HCQ.out]; unfold spanP; rw [HIP.out]; simp only; rw [if_pos ht45, hit]; simp only; rw [if_neg htf]; rfl)
              have HLT : Hid (m.length < l'.length) := Lib.hid (by omega)
              clear hit ht45 hg HIP htf
              have D1 := Lib.hid (cells_new_at u2 u2.heap.size rfl #[.int .i32 (f : Int), .int .i32 (t : Int)] 149 (spC (f, t)) rfl)
              have D2 := Lib.hid (spC_one (f, t))
              have D3 : Hid (S.length + 1 ≤ maxLen) := Lib.hid (by have := HSZ.out; unfold maxLen; omega)
              have D4 : Hid ((S.length + 1) * 8 ≤ 140737488355328) := Lib.hid (by have := HSZ.out; omega)
              have D5 : Hid (w.heap.size ≤ (u2.alloc (.cells #[.int .i32 (f : Int), .int .i32 (t : Int)] 149)).heap.size) := Lib.hid (by have := HBX.out.1.size; simp; omega)
              have HUA := Lib.hid ((Below.refl u2.heap.size u2).alloc (Nat.le_refl _) (.cells #[.int .i32 (f : Int), .int .i32 (t : Int)] 149))
              have HXA := Lib.hid ((HUA.out.block _ (lt_of_block HX.out)).trans HX.out)
              have HZA := Lib.hid ((HUA.out.block _ (lt_of_block HZ.out)).trans HZ.out)
              have HRA := Lib.hid (HRG.out.below HUA.out)
              have HOA := Lib.hid (own_belowG HOWN.out HUA.out)
              have HXG : Hid (∀ w2, (u2.alloc (.cells #[.int .i32 (f : Int), .int .i32 (t : Int)] 149)).grownBy w2 (Value.slice oa S.length oc).ownBlock → w2.heap[X]? = some (.cells #[.int .i64 0, .slice oa S.length oc, .bool ng] 152 (0, 0))) := Lib.hid fun w2 hg => (hg.block X (lt_of_block HXA.out) (fun e => own_neG HOA.out HXA.out (by decide) e.symm)).trans HXA.out
              have cx1 := cell_of_row _ X 1 _ _ _ HX.out
              simp only [List.getElem?_toArray, List.getElem?_cons_succ, List.getElem?_cons_zero] at cx1
              go_wp2_with (at_builtin; refine wpList_append_own _ rfl _ _ 150 rfl w.heap.size 149 iS (.agg #[.int .i32 0, .int .i32 0]) 2 8 Tryd.underlying150 hiS hzS hyS hbS rfl (by decide) _ _ _ rfl HOA.out ⟨u2.heap.size, 0, none⟩ 1 1 (spC (f, t)) rfl rfl D1.out D2.out D3.out D4.out D5.out ?_)
              intro v' w2 hown' hgrow _
              obtain ⟨oa2, oc2, rfl⟩ := own_formG hown'
              have hX2 := HXG.out w2 hgrow
              have hZ2 := (hgrow.block _ (lt_of_block HZA.out) (fun e => own_neG HOA.out HZA.out (by decide) e.symm)).trans HZA.out
              have hgt : ∀ k, (Value.slice oa S.length oc).ownBlock = some k → w.heap.size ≤ k := fun k hk => (HOA.out.lt k hk).1
              have hR2 := HRA.out.grown hgrow (fun k hk => by have := hgt k hk; have := HRW.out; omega)
              have hB2 := bx_grown (HBX.out.step HUA.out) hgrow hgt
              have cx2 := cell_of_row _ X 1 _ _ _ hX2
              simp only [List.getElem?_toArray, List.getElem?_cons_succ, List.getElem?_cons_zero] at cx2
              have fx2 := frozen_of_row _ X 1 _ _ hX2
              have hSl : (S ++ [(f, t)]).length = S.length + 1 := by simp
              have HX3 : Hid ((w2.setCell ⟨X, 1, none⟩ (.slice oa2 (S.length + 1) oc2)).heap[X]? = some (.cells #[.int .i64 0, .slice oa2 (S ++ [(f, t)]).length oc2, .bool ng] 152 (0, 0))) := Lib.hid (by rw [row_set hX2, hSl]; rfl)
              have HZ3 : Hid ((w2.setCell ⟨X, 1, none⟩ (.slice oa2 (S.length + 1) oc2)).heap[w.heap.size]? = some (.cells #[.int .i64 0, .slice none 0 0, .bool false] 152 (0, 0))) := Lib.hid ((heap_setCell_other w2 ⟨X, 1, none⟩ w.heap.size _ (by have := HXW.out; show w.heap.size ≠ X; omega)).trans hZ2)
              have HR3 := Lib.hid (hR2.setN (N := X) (by have := HXW.out; have := HRW.out; omega) 1 (.slice oa2 (S.length + 1) oc2))
              have HB3 := Lib.hid (bx_set hB2 (N := X) (by have := HXW.out; omega) 1 (.slice oa2 (S.length + 1) oc2))
              have HO3 : Hid ((w2.setCell ⟨X, 1, none⟩ (.slice oa2 (S.length + 1) oc2)).ownsRow w.heap.size 149 2 (.slice oa2 (S ++ [(f, t)]).length oc2) (S ++ [(f, t)]).length ((S ++ [(f, t)]).flatMap spC)) := Lib.hid (by
                have h1 := ownsRow_setCell_other hown' (a := ⟨X, 1, none⟩) (fun e => own_neG hown' hX2 (by decide) e) (.slice oa2 (S.length + 1) oc2)
                rw [hSl, List.flatMap_append, List.flatMap_singleton]
                exact h1)
              clear hown' hgrow hX2 hZ2 hgt hR2 hB2
              go_wp2_with fail
              go_roundw
              case rel => exact ⟨S ++ [(f, t)], m, oa2, oc2, HR3.out, HX3.out, HZ3.out, HO3.out, HB3.out, HCL.out, by rw [hSl]; have := HSZ.out; omega⟩
              case measure => rw [HR3.out.len, HLEN.out]; have := HLT.out; omega
    · have hSl : S.length ≠ 0 := fun h => hS0 (List.eq_nil_of_length_eq_zero h)
      have zS : ¬ (S.length : Int) = 0 := by omega
      go_wp2_with fail
      refine HTK.out.mono ?_
      rintro e u ⟨hb, rfl, hg⟩
      have HBV := Lib.hid (HBr.out.trans hb)
      have HXV := Lib.hid (hb.block (by have := HXW.out; have := HRW.out; omega) HXr.out)
      have HZV := Lib.hid (hb.block (by have := HRW.out; omega) HZr.out)
      have HOV := Lib.hid (hb.own HOr.out (fun e => by have := (HOr.out.lt R e).1; have := HRW.out; omega))
      have hle2 := takeP_le 93 l'
      clear hb HTK HRGr HBr HXr HZr HOr
      cases h93 : (takeP 93 l').1 with
      | true =>
        have HCQ : Hid (classR S l' = some (S, (takeP 93 l').2)) := Lib.hid (by rw [classR_eq, if_pos ⟨hS0, h93⟩])
        have HX := HXV
        have HZ := HZV
        have HG := Lib.hid hg
        clear hg  hS0 h93
        have HTH : Hid (u.there w.heap.size 0 (#[.int .i64 0, .slice oa S.length oc, .bool ng] : Array Value).size) := Lib.hid (show u.there w.heap.size 0 3 from row_thereG HZ.out)
        have HOC : Hid ((#[.int .i64 0, .slice oa S.length oc, .bool ng] : Array Value).all (·.oneCell') = true) := Lib.hid (one3 _ _ _ _)
        go_wp2_with (first | (with_reducible refine wpList_load_row rfl 152 (.tmp 4) rfl X rfl 152 #[.int .i64 0, .slice oa S.length oc, .bool ng] (0, 0) _ HX.out Tryd.underlying152 rfl (HI3.out oa S.length oc ng) ?_) | (with_reducible refine wpList_store_mid rfl 152 (.tmp 2) (.tmp 52) rfl w.heap.size 0 #[.int .i64 0, .slice oa S.length oc, .bool ng] rfl rfl HTH.out (HI3.out oa S.length oc ng) HOC.out ?_))
        (try simp only [Exit.inBlock, Exit.then])
        refine bodyPost_ret (results_row_tmp1 (p := 2) (q := 3) (ty := 152) rfl _ _ w.heap.size 152 #[.int .i64 0, .slice oa S.length oc, .bool ng] (0, 0) _ rfl (setCells_full HZ.out #[.int .i64 0, .slice oa S.length oc, .bool ng] rfl) Tryd.underlying152 rfl (HI3.out oa S.length oc ng)) rfl ?_
        exact ⟨bx_setCells2 HBV.out (Nat.le_refl _) _ 0, oa, oc, S, ng, true, rfl, .inr ⟨rfl, (takeP 93 l').2, by rw [HCP.out, ← HRES.out, HCQ.out]; rfl, HG.out.setNs (by have := HRW.out; omega) _ 0, own_setNs HOV.out HZ.out (by decide) _ 0⟩⟩
      | false =>
        have HCQ : Hid (classR S l' = goS S (spanP l')) := Lib.hid (classR_go (fun h => by rw [h93] at h; cases h.2))
        have hl3 : (takeP 93 l').2 = l' := by
          cases l' with
          | nil => rfl
          | cons y l3 =>
            unfold takeP at h93 ⊢
            simp only at h93 ⊢
            split at h93
            · cases h93
            · rw [if_neg (by assumption)]
        rw [hl3] at hg hle2
        have HRV := Lib.hid hg
        have HIT := Lib.hid (gitem_any R l' u hg)
        clear hg hS0 h93 hl3
        go_wp2_with fail
        refine HIT.out.mono ?_
        clear hSl zS
        rintro e u ⟨hb, hl⟩
        have HBX := Lib.hid (HBV.out.trans hb)
        have HX := Lib.hid (hb.block (by have := HXW.out; have := HRW.out; omega) HXV.out)
        have HZ := Lib.hid (hb.block (by have := HRW.out; omega) HZV.out)
        have HOWN := Lib.hid (hb.own HOV.out (fun e => by have := (HOV.out.lt R e).1; have := HRW.out; omega))
        cases hit : itemP l' with
        | none =>
          rw [hit] at hl
          subst hl
          have HFN : Hid (classR [] l1 = none) := Lib.hid (by rw [← HRES.out, HCQ.out]; unfold spanP; rw [hit]; rfl)
          clear hb HIT hit
          have HTH : Hid (u.there w.heap.size 0 (#[.int .i64 0, .slice oa S.length oc, .bool ng] : Array Value).size) := Lib.hid (show u.there w.heap.size 0 3 from row_thereG HZ.out)
          have HOC : Hid ((#[.int .i64 0, .slice oa S.length oc, .bool ng] : Array Value).all (·.oneCell') = true) := Lib.hid (one3 _ _ _ _)
          go_wp2_with (first | (with_reducible refine wpList_load_row rfl 152 (.tmp 4) rfl X rfl 152 #[.int .i64 0, .slice oa S.length oc, .bool ng] (0, 0) _ HX.out Tryd.underlying152 rfl (HI3.out oa S.length oc ng) ?_) | (with_reducible refine wpList_store_mid rfl 152 (.tmp 2) (.tmp 27) rfl w.heap.size 0 #[.int .i64 0, .slice oa S.length oc, .bool ng] rfl rfl HTH.out (HI3.out oa S.length oc ng) HOC.out ?_))
          (try simp only [Exit.inBlock, Exit.then])
          refine bodyPost_ret (results_row_tmp1 (p := 2) (q := 3) (ty := 152) rfl _ _ w.heap.size 152 #[.int .i64 0, .slice oa S.length oc, .bool ng] (0, 0) _ rfl (setCells_full HZ.out #[.int .i64 0, .slice oa S.length oc, .bool ng] rfl) Tryd.underlying152 rfl (HI3.out oa S.length oc ng)) rfl ?_
          exact ⟨bx_setCells2 HBX.out (Nat.le_refl _) _ 0, oa, oc, S, ng, false, rfl, .inl ⟨rfl, by rw [HCP.out, HFN.out]; rfl⟩⟩
        | some y =>
          obtain ⟨f, l3⟩ := y
          rw [hit] at hl
          obtain ⟨rfl, hg⟩ := hl
          have hlt3 := itemP_lt hit
          have HIP := Lib.hid hit
          have HTK := Lib.hid (gtake_any R l3 45 45 rfl u hg)
          clear hb HIT hg hit HRV HBV HXV HZV HOV
          go_wp2_with fail
          refine HTK.out.mono ?_
          rintro e v ⟨hb, rfl, hg⟩
          have HBX2 := Lib.hid (HBX.out.trans hb)
          have HX2 := Lib.hid (hb.block (by have := HXW.out; have := HRW.out; omega) HX.out)
          have HZ2 := Lib.hid (hb.block (by have := HRW.out; omega) HZ.out)
          have HOWN2 := Lib.hid (hb.own HOWN.out (fun e => by have := (HOWN.out.lt R e).1; have := HRW.out; omega))
          have hle4 := takeP_le 45 l3
          clear hb HBX HX HZ HOWN HTK
          cases ht45 : (takeP 45 l3).1 with
          | false =>
            have HSP : Hid (spanP l' = some ((f, f), l3)) := Lib.hid (by unfold spanP; rw [HIP.out]; simp only; rw [if_neg (by rw [ht45]; decide)])
            have hl3 : (takeP 45 l3).2 = l3 := by
              cases l3 with
              | nil => rfl
              | cons y l3 =>
                unfold takeP at ht45 ⊢
                simp only at ht45 ⊢
                split at ht45
                · cases ht45
                · rw [if_neg (by assumption)]
            rw [hl3] at hg
            have HCL : Hid (classR (S ++ [(f, f)]) l3 = classR [] l1) := Lib.hid (by rw [← HRES.out, HCQ.out, HSP.out]; rfl)
            have HRG := Lib.hid hg
            have HBX := HBX2
            have HX := HX2
            have HZ := HZ2
            have HOWN := HOWN2
            have HLT : Hid (l3.length < l'.length) := Lib.hid (by omega)
            clear ht45 hl3 hg HIP HSP HBX2 HX2 HZ2 HOWN2
            have D1 := Lib.hid (cells_new_at v v.heap.size rfl #[.int .i32 (f : Int), .int .i32 (f : Int)] 149 (spC (f, f)) rfl)
            have D2 := Lib.hid (spC_one (f, f))
            have D3 : Hid (S.length + 1 ≤ maxLen) := Lib.hid (by have := HSZ.out; unfold maxLen; omega)
            have D4 : Hid ((S.length + 1) * 8 ≤ 140737488355328) := Lib.hid (by have := HSZ.out; omega)
            have D5 : Hid (w.heap.size ≤ (v.alloc (.cells #[.int .i32 (f : Int), .int .i32 (f : Int)] 149)).heap.size) := Lib.hid (by have := HBX.out.1.size; simp; omega)
            have HUA := Lib.hid ((Below.refl v.heap.size v).alloc (Nat.le_refl _) (.cells #[.int .i32 (f : Int), .int .i32 (f : Int)] 149))
            have HXA := Lib.hid ((HUA.out.block _ (lt_of_block HX.out)).trans HX.out)
            have HZA := Lib.hid ((HUA.out.block _ (lt_of_block HZ.out)).trans HZ.out)
            have HRA := Lib.hid (HRG.out.below HUA.out)
            have HOA := Lib.hid (own_belowG HOWN.out HUA.out)
            have HXG : Hid (∀ w2, (v.alloc (.cells #[.int .i32 (f : Int), .int .i32 (f : Int)] 149)).grownBy w2 (Value.slice oa S.length oc).ownBlock → w2.heap[X]? = some (.cells #[.int .i64 0, .slice oa S.length oc, .bool ng] 152 (0, 0))) := Lib.hid fun w2 hg => (hg.block X (lt_of_block HXA.out) (fun e => own_neG HOA.out HXA.out (by decide) e.symm)).trans HXA.out
            have cx1 := cell_of_row _ X 1 _ _ _ HX.out
            simp only [List.getElem?_toArray, List.getElem?_cons_succ, List.getElem?_cons_zero] at cx1
            go_wp2_with (at_builtin; refine wpList_append_own _ rfl _ _ 150 rfl w.heap.size 149 iS (.agg #[.int .i32 0, .int .i32 0]) 2 8 Tryd.underlying150 hiS hzS hyS hbS rfl (by decide) _ _ _ rfl HOA.out ⟨v.heap.size, 0, none⟩ 1 1 (spC (f, f)) rfl rfl D1.out D2.out D3.out D4.out D5.out ?_)
            intro v' w2 hown' hgrow _
            obtain ⟨oa2, oc2, rfl⟩ := own_formG hown'
            have hX2 := HXG.out w2 hgrow
            have hZ2 := (hgrow.block _ (lt_of_block HZA.out) (fun e => own_neG HOA.out HZA.out (by decide) e.symm)).trans HZA.out
            have hgt : ∀ k, (Value.slice oa S.length oc).ownBlock = some k → w.heap.size ≤ k := fun k hk => (HOA.out.lt k hk).1
            have hR2 := HRA.out.grown hgrow (fun k hk => by have := hgt k hk; have := HRW.out; omega)
            have hB2 := bx_grown (HBX.out.step HUA.out) hgrow hgt
            have cx2 := cell_of_row _ X 1 _ _ _ hX2
            simp only [List.getElem?_toArray, List.getElem?_cons_succ, List.getElem?_cons_zero] at cx2
            have fx2 := frozen_of_row _ X 1 _ _ hX2
            have hSl : (S ++ [(f, f)]).length = S.length + 1 := by simp
            have HX3 : Hid ((w2.setCell ⟨X, 1, none⟩ (.slice oa2 (S.length + 1) oc2)).heap[X]? = some (.cells #[.int .i64 0, .slice oa2 (S ++ [(f, f)]).length oc2, .bool ng] 152 (0, 0))) := Lib.hid (by rw [row_set hX2, hSl]; rfl)
            have HZ3 : Hid ((w2.setCell ⟨X, 1, none⟩ (.slice oa2 (S.length + 1) oc2)).heap[w.heap.size]? = some (.cells #[.int .i64 0, .slice none 0 0, .bool false] 152 (0, 0))) := Lib.hid ((heap_setCell_other w2 ⟨X, 1, none⟩ w.heap.size _ (by have := HXW.out; show w.heap.size ≠ X; omega)).trans hZ2)
            have HR3 := Lib.hid (hR2.setN (N := X) (by have := HXW.out; have := HRW.out; omega) 1 (.slice oa2 (S.length + 1) oc2))
            have HB3 := Lib.hid (bx_set hB2 (N := X) (by have := HXW.out; omega) 1 (.slice oa2 (S.length + 1) oc2))
            have HO3 : Hid ((w2.setCell ⟨X, 1, none⟩ (.slice oa2 (S.length + 1) oc2)).ownsRow w.heap.size 149 2 (.slice oa2 (S ++ [(f, f)]).length oc2) (S ++ [(f, f)]).length ((S ++ [(f, f)]).flatMap spC)) := Lib.hid (by
              have h1 := ownsRow_setCell_other hown' (a := ⟨X, 1, none⟩) (fun e => own_neG hown' hX2 (by decide) e) (.slice oa2 (S.length + 1) oc2)
              rw [hSl, List.flatMap_append, List.flatMap_singleton]
              exact h1)
            clear hown' hgrow hX2 hZ2 hgt hR2 hB2
            go_wp2_with fail
            go_roundw
            case rel => exact ⟨S ++ [(f, f)], l3, oa2, oc2, HR3.out, HX3.out, HZ3.out, HO3.out, HB3.out, HCL.out, by rw [hSl]; have := HSZ.out; omega⟩
            case measure => rw [HR3.out.len, HLEN.out]; have := HLT.out; omega
          | true =>
            have HIT2 := Lib.hid (gitem_any R (takeP 45 l3).2 v hg)
            clear hg
            go_wp2_with fail
            refine HIT2.out.mono ?_
            rintro e u2 ⟨hb, hl⟩
            have HBX := Lib.hid (HBX2.out.trans hb)
            have HX := Lib.hid (hb.block (by have := HXW.out; have := HRW.out; omega) HX2.out)
            have HZ := Lib.hid (hb.block (by have := HRW.out; omega) HZ2.out)
            have HOWN := Lib.hid (hb.own HOWN2.out (fun e => by have := (HOWN2.out.lt R e).1; have := HRW.out; omega))
            clear HBX2 HX2 HZ2 HOWN2 hb HIT2
            cases hit : itemP (takeP 45 l3).2 with
            | none =>
              rw [hit] at hl
              subst hl
              have HFN : Hid (classR [] l1 = none) := Lib.hid (by rw [← HRES.out, HCQ.out]; unfold spanP; rw [HIP.out]; simp only; rw [if_pos ht45, hit]; rfl)
              clear hit ht45 HIP
              have HTH : Hid (u2.there w.heap.size 0 (#[.int .i64 0, .slice oa S.length oc, .bool ng] : Array Value).size) := Lib.hid (show u2.there w.heap.size 0 3 from row_thereG HZ.out)
              have HOC : Hid ((#[.int .i64 0, .slice oa S.length oc, .bool ng] : Array Value).all (·.oneCell') = true) := Lib.hid (one3 _ _ _ _)
              go_wp2_with (first | (with_reducible refine wpList_load_row rfl 152 (.tmp 4) rfl X rfl 152 #[.int .i64 0, .slice oa S.length oc, .bool ng] (0, 0) _ HX.out Tryd.underlying152 rfl (HI3.out oa S.length oc ng) ?_) | (with_reducible refine wpList_store_mid rfl 152 (.tmp 2) (.tmp 43) rfl w.heap.size 0 #[.int .i64 0, .slice oa S.length oc, .bool ng] rfl rfl HTH.out (HI3.out oa S.length oc ng) HOC.out ?_))
              (try simp only [Exit.inBlock, Exit.then])
              refine bodyPost_ret (results_row_tmp1 (p := 2) (q := 3) (ty := 152) rfl _ _ w.heap.size 152 #[.int .i64 0, .slice oa S.length oc, .bool ng] (0, 0) _ rfl (setCells_full HZ.out #[.int .i64 0, .slice oa S.length oc, .bool ng] rfl) Tryd.underlying152 rfl (HI3.out oa S.length oc ng)) rfl ?_
              exact ⟨bx_setCells2 HBX.out (Nat.le_refl _) _ 0, oa, oc, S, ng, false, rfl, .inl ⟨rfl, by rw [HCP.out, HFN.out]; rfl⟩⟩
            | some z =>
              obtain ⟨t, m⟩ := z
              rw [hit] at hl
              obtain ⟨rfl, hg⟩ := hl
              have hlt4 := itemP_lt hit
              have HRG := Lib.hid hg
              by_cases htf : t < f
              · have c1 : (t : Int) < (f : Int) := by omega
                have HFN : Hid (classR [] l1 = none) := Lib.hid (by rw [← HRES.out, HCQ.out]; unfold spanP; rw [HIP.out]; simp only; rw [if_pos ht45, hit]; simp only; rw [if_pos htf]; rfl)
                clear hit ht45 hg HRG HIP htf
                have HTH : Hid (u2.there w.heap.size 0 (#[.int .i64 0, .slice oa S.length oc, .bool ng] : Array Value).size) := Lib.hid (show u2.there w.heap.size 0 3 from row_thereG HZ.out)
                have HOC : Hid ((#[.int .i64 0, .slice oa S.length oc, .bool ng] : Array Value).all (·.oneCell') = true) := Lib.hid (one3 _ _ _ _)
                go_wp2_with (first | (with_reducible refine wpList_load_row rfl 152 (.tmp 4) rfl X rfl 152 #[.int .i64 0, .slice oa S.length oc, .bool ng] (0, 0) _ HX.out Tryd.underlying152 rfl (HI3.out oa S.length oc ng) ?_) | (with_reducible refine wpList_store_mid rfl 152 (.tmp 2) (.tmp 43) rfl w.heap.size 0 #[.int .i64 0, .slice oa S.length oc, .bool ng] rfl rfl HTH.out (HI3.out oa S.length oc ng) HOC.out ?_))
                (try simp only [Exit.inBlock, Exit.then])
                refine bodyPost_ret (results_row_tmp1 (p := 2) (q := 3) (ty := 152) rfl _ _ w.heap.size 152 #[.int .i64 0, .slice oa S.length oc, .bool ng] (0, 0) _ rfl (setCells_full HZ.out #[.int .i64 0, .slice oa S.length oc, .bool ng] rfl) Tryd.underlying152 rfl (HI3.out oa S.length oc ng)) rfl ?_
                exact ⟨bx_setCells2 HBX.out (Nat.le_refl _) _ 0, oa, oc, S, ng, false, rfl, .inl ⟨rfl, by rw [HCP.out, HFN.out]; rfl⟩⟩
              · have c1 : ¬ (t : Int) < (f : Int) := by omega
                have HCL : Hid (classR (S ++ [(f, t)]) m = classR [] l1) := Lib.hid (by rw [← HRES.out, HCQ.out]; unfold spanP; rw [HIP.out]; simp only; rw [if_pos ht45, hit]; simp only; rw [if_neg htf]; rfl)
                have HLT : Hid (m.length < l'.length) := Lib.hid (by omega)
                clear hit ht45 hg HIP htf
                have D1 := Lib.hid (cells_new_at u2 u2.heap.size rfl #[.int .i32 (f : Int), .int .i32 (t : Int)] 149 (spC (f, t)) rfl)
                have D2 := Lib.hid (spC_one (f, t))
                have D3 : Hid (S.length + 1 ≤ maxLen) := Lib.hid (by have := HSZ.out; unfold maxLen; omega)
                have D4 : Hid ((S.length + 1) * 8 ≤ 140737488355328) := Lib.hid (by have := HSZ.out; omega)
                have D5 : Hid (w.heap.size ≤ (u2.alloc (.cells #[.int .i32 (f : Int), .int .i32 (t : Int)] 149)).heap.size) := Lib.hid (by have := HBX.out.1.size; simp; omega)
                have HUA := Lib.hid ((Below.refl u2.heap.size u2).alloc (Nat.le_refl _) (.cells #[.int .i32 (f : Int), .int .i32 (t : Int)] 149))
                have HXA := Lib.hid ((HUA.out.block _ (lt_of_block HX.out)).trans HX.out)
                have HZA := Lib.hid ((HUA.out.block _ (lt_of_block HZ.out)).trans HZ.out)
                have HRA := Lib.hid (HRG.out.below HUA.out)
                have HOA := Lib.hid (own_belowG HOWN.out HUA.out)
                have HXG : Hid (∀ w2, (u2.alloc (.cells #[.int .i32 (f : Int), .int .i32 (t : Int)] 149)).grownBy w2 (Value.slice oa S.length oc).ownBlock → w2.heap[X]? = some (.cells #[.int .i64 0, .slice oa S.length oc, .bool ng] 152 (0, 0))) := Lib.hid fun w2 hg => (hg.block X (lt_of_block HXA.out) (fun e => own_neG HOA.out HXA.out (by decide) e.symm)).trans HXA.out
                have cx1 := cell_of_row _ X 1 _ _ _ HX.out
                simp only [List.getElem?_toArray, List.getElem?_cons_succ, List.getElem?_cons_zero] at cx1
                go_wp2_with (at_builtin; refine wpList_append_own _ rfl _ _ 150 rfl w.heap.size 149 iS (.agg #[.int .i32 0, .int .i32 0]) 2 8 Tryd.underlying150 hiS hzS hyS hbS rfl (by decide) _ _ _ rfl HOA.out ⟨u2.heap.size, 0, none⟩ 1 1 (spC (f, t)) rfl rfl D1.out D2.out D3.out D4.out D5.out ?_)
                intro v' w2 hown' hgrow _
                obtain ⟨oa2, oc2, rfl⟩ := own_formG hown'
                have hX2 := HXG.out w2 hgrow
                have hZ2 := (hgrow.block _ (lt_of_block HZA.out) (fun e => own_neG HOA.out HZA.out (by decide) e.symm)).trans HZA.out
                have hgt : ∀ k, (Value.slice oa S.length oc).ownBlock = some k → w.heap.size ≤ k := fun k hk => (HOA.out.lt k hk).1
                have hR2 := HRA.out.grown hgrow (fun k hk => by have := hgt k hk; have := HRW.out; omega)
                have hB2 := bx_grown (HBX.out.step HUA.out) hgrow hgt
                have cx2 := cell_of_row _ X 1 _ _ _ hX2
                simp only [List.getElem?_toArray, List.getElem?_cons_succ, List.getElem?_cons_zero] at cx2
                have fx2 := frozen_of_row _ X 1 _ _ hX2
                have hSl : (S ++ [(f, t)]).length = S.length + 1 := by simp
                have HX3 : Hid ((w2.setCell ⟨X, 1, none⟩ (.slice oa2 (S.length + 1) oc2)).heap[X]? = some (.cells #[.int .i64 0, .slice oa2 (S ++ [(f, t)]).length oc2, .bool ng] 152 (0, 0))) := Lib.hid (by rw [row_set hX2, hSl]; rfl)
                have HZ3 : Hid ((w2.setCell ⟨X, 1, none⟩ (.slice oa2 (S.length + 1) oc2)).heap[w.heap.size]? = some (.cells #[.int .i64 0, .slice none 0 0, .bool false] 152 (0, 0))) := Lib.hid ((heap_setCell_other w2 ⟨X, 1, none⟩ w.heap.size _ (by have := HXW.out; show w.heap.size ≠ X; omega)).trans hZ2)
                have HR3 := Lib.hid (hR2.setN (N := X) (by have := HXW.out; have := HRW.out; omega) 1 (.slice oa2 (S.length + 1) oc2))
                have HB3 := Lib.hid (bx_set hB2 (N := X) (by have := HXW.out; omega) 1 (.slice oa2 (S.length + 1) oc2))
                have HO3 : Hid ((w2.setCell ⟨X, 1, none⟩ (.slice oa2 (S.length + 1) oc2)).ownsRow w.heap.size 149 2 (.slice oa2 (S ++ [(f, t)]).length oc2) (S ++ [(f, t)]).length ((S ++ [(f, t)]).flatMap spC)) := Lib.hid (by
                  have h1 := ownsRow_setCell_other hown' (a := ⟨X, 1, none⟩) (fun e => own_neG hown' hX2 (by decide) e) (.slice oa2 (S.length + 1) oc2)
                  rw [hSl, List.flatMap_append, List.flatMap_singleton]
                  exact h1)
                clear hown' hgrow hX2 hZ2 hgt hR2 hB2
                go_wp2_with fail
                go_roundw
                case rel => exact ⟨S ++ [(f, t)], m, oa2, oc2, HR3.out, HX3.out, HZ3.out, HO3.out, HB3.out, HCL.out, by rw [hSl]; have := HSZ.out; omega⟩
                case measure => rw [HR3.out.len, HLEN.out]; have := HLT.out; omega
end Go.Proofs.YtokckcmkbnhhhaaDoor
