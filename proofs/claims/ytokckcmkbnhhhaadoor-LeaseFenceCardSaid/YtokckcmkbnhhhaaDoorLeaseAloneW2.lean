/- The walk of LeaseAlone, its loop. Printed by wip/gen_leasealone.py. -/
import Derived.Test.YtokckcmkbnhhhaaDoorLeaseAloneW
namespace Go.Proofs.YtokckcmkbnhhhaaDoor
open Go.RowKit Plain
abbrev Act3 := Int × Int × Int
def aC (a : Act3) : List Value := [.int .i64 a.1, .int .i64 a.2.1, .int .i64 a.2.2]
theorem aC_length (a : Act3) : (aC a).length = 3 := rfl
def LInv (i : Nat) (now until_ : Int) (mine : ByteArray) (token : Int) (who : ByteArray) (u t : Int) : Prop :=
  (0 ≤ now ∧ now ≤ 8 * (i : Int)) ∧ (0 ≤ u ∧ u ≤ now + 10) ∧ until_ ≤ now + 10 ∧ (0 ≤ t ∧ t ≤ (i : Int)) ∧ ((mine.size = 0 ∧ who.size = 0) ∨ ((∃ k, k < 3 ∧ mine = askS k) ∧ who = mine ∧ u = until_ ∧ t = token))
theorem LInv.ok {i : Nat} {now until_ : Int} {mine : ByteArray} {token : Int} {who : ByteArray} {u t : Int} (h : LInv i now until_ mine token who u t) (hi : i ≤ 1048576) : LsOk who u t := by
  obtain ⟨⟨h1, h2⟩, ⟨h3, h4⟩, h5, ⟨h6, h7⟩, h8⟩ := h
  refine ⟨⟨h3, by omega⟩, ⟨h6, by omega⟩, ?_, ?_⟩
  · rcases h8 with ⟨_, h⟩ | ⟨⟨k, hk, hm⟩, hw, _⟩
    · omega
    · rw [hw, hm, (askS_ok k hk).2]; decide
  · rcases h8 with ⟨_, h⟩ | ⟨⟨k, hk, hm⟩, hw, _⟩
    · exact .inl h
    · right; rw [hw, hm]; exact (askS_ok k hk).1
theorem LInv.gave {i : Nat} {now until_ : Int} {mine : ByteArray} {token : Int} {who : ByteArray} {u t : Int} (h : LInv i now until_ mine token who u t) (r : Nat) (hr : (r : Int) < 8) : LInv (i + 1) (now + r) until_ ⟨#[]⟩ token ⟨#[]⟩ (min u (now + r)) t := by
  obtain ⟨⟨h1, h2⟩, ⟨h3, h4⟩, h5, ⟨h6, h7⟩, h8⟩ := h
  exact ⟨⟨by omega, by omega⟩, ⟨by omega, by omega⟩, by omega, ⟨h6, by omega⟩, .inl ⟨rfl, rfl⟩⟩
theorem LInv.asked {i : Nat} {now until_ : Int} {mine : ByteArray} {token : Int} {who : ByteArray} {u t : Int} (h : LInv i now until_ mine token who u t) (r : Nat) (hr : (r : Int) < 8) (k : Nat) (hk : k < 3) :
    LInv (i + 1) (now + r) (max until_ (now + r + 10)) (askS k) (t + 1) (askS k) (max (now + r + 10) u) (t + 1) := by
  obtain ⟨⟨h1, h2⟩, ⟨h3, h4⟩, h5, ⟨h6, h7⟩, h8⟩ := h
  exact ⟨⟨by omega, by omega⟩, ⟨by omega, by omega⟩, by omega, ⟨by omega, by omega⟩, .inr ⟨⟨k, hk, rfl⟩, rfl, by omega, rfl⟩⟩
theorem LInv.kept {i : Nat} {now until_ : Int} {mine : ByteArray} {token : Int} {who : ByteArray} {u t : Int} (h : LInv i now until_ mine token who u t) (r : Nat) (hr : (r : Int) < 8) : LInv (i + 1) (now + r) until_ mine token who u t := by
  obtain ⟨⟨h1, h2⟩, ⟨h3, h4⟩, h5, ⟨h6, h7⟩, h8⟩ := h
  exact ⟨⟨by omega, by omega⟩, ⟨by omega, by omega⟩, by omega, ⟨h6, by omega⟩, h8⟩
set_option maxRecDepth 100000 in
set_option maxHeartbeats 2000000 in
theorem leaseAlone_any (a : Option Addr) (cap : Nat) (l : List Act3) (w : World) (h : SAt 3 aC w a l) (hl : l.length ≤ 1048576) (hT : Tabs w) :
    Calls Tryd.prog 3 #[.slice a l.length cap] w fun e w' => e = .returned (.bool true) ∧ Below w.heap.size w w' := by
  have HON : ∀ (a : ByteArray) (x y : Int), (#[.string a, .int .i64 x, .int .i64 y] : Array Value).all (·.oneCell') = true := fun a x y => by simp [Value.oneCell']
  have HI3 : ∀ (a : ByteArray) (x y : Int), (Tryd.prog.info? 25).map (·.size) = some (#[.string a, .int .i64 x, .int .i64 y] : Array Value).size := fun _ _ _ => info_lease
  have HON := Lib.hid HON
  have HI3 := Lib.hid HI3
  have HS := Lib.hid h
  have HT := Lib.hid hT
  have HAD := Lib.hid (asked_any w hT)
  have HAK := Lib.hid asker_any
  have HRS := Lib.hid rest_any
  have HASK := Lib.hid ask_any
  have HGIV := Lib.hid give_any
  clear h hT
  go_enter Tryd.func3, Tryd.ntmps3
  go_wp2_with fail
  refine HAD.out.mono ?_
  rintro e w1 ⟨rfl, hb1⟩
  have b2 : Below w1.heap.size w1 (w1.alloc (.cells #[.string ⟨#[]⟩, .int .i64 0, .int .i64 0] 25)) := (Below.refl _ _).alloc (Nat.le_refl _) _
  have HB2 := Lib.hid (Below.step hb1 b2)
  have HR2 := Lib.hid (heap_alloc_new w1 (.cells #[.string ⟨#[]⟩, .int .i64 0, .int .i64 0] 25))
  have HLB : Hid (w.heap.size ≤ w1.heap.size) := hb1.size
  clear hb1 b2 HAD
  go_wp2_with fail
  generalize w1.alloc (.cells #[.string ⟨#[]⟩, .int .i64 0, .int .i64 0] 25) = w2 at *
  generalize w1.heap.size = LB at *
  go_loopw [4, 5, 6, 7, 21] (fun nv uv mv tv iv wr => ∃ (i : Nat) (now until_ : Int) (mine : ByteArray) (token : Int) (who : ByteArray) (u t : Int), i ≤ l.length ∧ nv = .int .i64 now ∧ uv = .int .i64 until_ ∧ mv = .string mine ∧ tv = .int .i64 token ∧ iv = .int .i64 (i : Int) ∧ Hid (Below w.heap.size w wr) ∧ Hid (wr.heap[LB]? = some (.cells #[.string who, .int .i64 u, .int .i64 t] 25 (0, 0))) ∧ Hid (LInv i now until_ mine token who u t)) (fun _ _ _ _ iv _ => l.length - (intOf iv).toNat)
  case atStart => exact ⟨0, 0, 0, ⟨#[]⟩, 0, ⟨#[]⟩, 0, 0, by omega, rfl, rfl, rfl, rfl, rfl, HB2, HR2, Lib.hid ⟨⟨by decide, by decide⟩, ⟨by decide, by decide⟩, by decide, ⟨by decide, by decide⟩, .inl ⟨rfl, rfl⟩⟩⟩
  case round =>
    obtain ⟨i, now, until_, mine, token, who, u, t, hi, rfl, rfl, rfl, rfl, rfl, HBR, HR, HI⟩ := hrel
    by_cases hlt : i < l.length
    · have m1 : (i : Int) < (l.length : Int) := by omega
      obtain ⟨g, off, rfl, hg, hr⟩ := (HS.out.below HBR.out) i hlt
      have a0 := hr 0 _ rfl
      have a1 := hr 1 _ rfl
      have a2 := hr 2 _ rfl
      obtain ⟨⟨n1, n2⟩, ⟨u1, u2⟩, n3, ⟨t1, t2⟩, n4⟩ := HI.out
      have HN4 := Lib.hid n4
      have HOK := Lib.hid (HI.out.ok (by omega))
      clear hg hr n4
      generalize l[i] = x at *
      obtain ⟨kd, fr, tt⟩ := x
      simp only [Nat.add_zero] at a0
      have ba : Below wr.heap.size wr (wr.alloc (.cells #[.int .i64 kd, .int .i64 fr, .int .i64 tt] 27)) := (Below.refl _ _).alloc (Nat.le_refl _) _
      have HBA := Lib.hid (Below.step HBR.out ba)
      have HRA := Lib.hid (heap_alloc_new wr (.cells #[.int .i64 kd, .int .i64 fr, .int .i64 tt] 27))
      have HR3 := Lib.hid ((ba.block _ (lt_of_block HR.out)).trans HR.out)
      have y0 := cell_of_row _ _ 0 _ _ _ HRA.out
      have y1 := cell_of_row _ _ 1 _ _ _ HRA.out
      have y2 := cell_of_row _ _ 2 _ _ _ HRA.out
      simp only [List.getElem?_toArray, List.getElem?_cons_succ, List.getElem?_cons_zero] at y0 y1 y2
      clear ba
      go_wp2_with fail
      clear a0 a1 a2
      generalize wr.alloc (.cells #[.int .i64 kd, .int .i64 fr, .int .i64 tt] 27) = wa at *
      generalize wr.heap.size = AB at *
      refine (HRS.out tt 8 wa (by decide) (by decide)).mono ?_
      rintro e w3 ⟨⟨r, hr8, rfl⟩, rfl⟩
      have i1 : IntKind.i64.wrap (now + (r : Int)) = now + (r : Int) := wraps_i64 _ (by omega) (by omega)
      have hnow : 0 ≤ now + (r : Int) ∧ now + (r : Int) ≤ 549755813888 := by omega
      have HNOW := Lib.hid hnow
      have HR8 := Lib.hid hr8
      clear hnow
      go_wp2_with fail
      refine (HAK.out fr w3).mono ?_
      rintro e w4 ⟨hb4, k, hk, rfl⟩
      have HB4 := Lib.hid (Below.step HBA.out hb4)
      have HR4 := Lib.hid ((hb4.block _ (lt_of_block HR3.out)).trans HR3.out)
      have HA4 := Lib.hid ((hb4.block _ (lt_of_block HRA.out)).trans HRA.out)
      have ⟨hq, hqz⟩ := askS_ok k hk
      have HQ := Lib.hid hq
      have HGV := Lib.hid (HI.out.gave r hr8)
      have HAS := Lib.hid (HI.out.asked r hr8 k hk)
      have HKP := Lib.hid (HI.out.kept r hr8)
      have HK3 := Lib.hid hk
      clear y0 y1 y2 hb4 hq hk
      have y0 := cell_of_row _ _ 0 _ _ _ HA4.out
      simp only [List.getElem?_toArray, List.getElem?_cons_zero] at y0
      generalize hqq : askS k = q at *
      have ⟨x0, x1, x2⟩ := ls_cells HR4.out
      have hbd : now + (r : Int) ≤ 8388616 := by omega
      have i2 : IntKind.i64.wrap (now + (r : Int) + 10) = now + (r : Int) + 10 := wraps_i64 _ (by omega) (by omega)
      generalize hN : now + (r : Int) = now2 at *
      by_cases hA : kd = 2 ∧ q = mine
      · have fk : (kd == 2) = true := by simp [hA.1]
        have fm : (q.toList == mine.toList) = true := same_strB hA.2
        have hw : who.size ≠ 0 ∧ token = t := by
          rcases HN4.out with ⟨hm0, _⟩ | ⟨_, hw, _, ht⟩
          · rw [← hA.2] at hm0; omega
          · exact ⟨by rw [hw, ← hA.2]; omega, ht.symm⟩
        have HW := Lib.hid hw
        clear hA hw
        go_wp2_with fail
        refine (HGIV.out who u t token now2 w4 HOK.out (HT.out.below HB4.out)).mono ?_
        rintro e w5 ⟨hb5, ⟨g1, g2, g3, rfl⟩ | ⟨hno, _⟩⟩
        rotate_left
        · exact absurd ⟨HNOW.out, HW.out.1, HW.out.2⟩ hno
        clear g1 g2 g3
        have HR5 := Lib.hid ((hb5.block _ (lt_of_block HR4.out)).trans HR4.out)
        have HB5 := Lib.hid (Below.step HB4.out hb5)
        have b6 : Below w5.heap.size w5 (w5.alloc (.cells #[.string ⟨#[]⟩, .int .i64 (min u now2), .int .i64 t] 25)) := (Below.refl _ _).alloc (Nat.le_refl _) _
        have HB6 := Lib.hid (Below.step HB5.out b6)
        have HR6 := Lib.hid ((b6.block _ (lt_of_block HR5.out)).trans HR5.out)
        have ⟨z0, z1, z2⟩ := ls_cells (heap_alloc_new w5 (.cells #[.string ⟨#[]⟩, .int .i64 (min u now2), .int .i64 t] 25))
        have HTH : Hid ((w5.alloc (.cells #[.string ⟨#[]⟩, .int .i64 (min u now2), .int .i64 t] 25)).there LB 0 (#[.string ⟨#[]⟩, .int .i64 (min u now2), .int .i64 t] : Array Value).size) := by have h := row_thereI HR6.out; exact h
        have HBZ := Lib.hid (below_setCells HLB.out [.string ⟨#[]⟩, .int .i64 (min u now2), .int .i64 t] 0 HB6.out)
        have HRZ := Lib.hid (setCells_full HR6.out #[.string ⟨#[]⟩, .int .i64 (min u now2), .int .i64 t] rfl)
        clear b6 hb5 x0 x1 x2 y0
        go_wp2_with (with_reducible refine wpList_store_mid rfl 25 (.tmp 3) (.tmp 50) rfl LB 0 #[.string ⟨#[]⟩, .int .i64 (min u now2), .int .i64 t] rfl rfl HTH.out (HI3.out _ _ _) (HON.out _ _ _) ?_)
        go_roundw
        case rel => exact ⟨i + 1, now2, until_, ⟨#[]⟩, token, ⟨#[]⟩, min u now2, t, by omega, by first | rfl | trivial, by first | rfl | trivial, by first | rfl | trivial, by first | rfl | trivial, by go_num, HBZ, HRZ, HGV⟩
        case measure => simp [intOf]; omega
      · have HAN := Lib.hid hA
        have HSPLIT : (kd == 2) = false ∨ ((kd == 2) = true ∧ (q.toList == mine.toList) = false) := by
          by_cases e : kd = 2
          · right; exact ⟨by simp [e], other_strB (fun e2 => hA ⟨e, e2⟩)⟩
          · left; simpa using e
        clear hA
        rcases HSPLIT with fk | ⟨fk, fkm⟩
        · by_cases hm : mine.size = 0
          · have f0 := empty_strB hm
            have HNB : Hid (¬ BusyP who u q now2) := fun h => h.1 (by
              rcases HN4.out with ⟨_, hw⟩ | ⟨⟨k', hk', e⟩, _, _, _⟩
              · exact hw
              · have := (askS_ok k' hk').2; rw [← e] at this; omega)
            go_wp2_with fail
            refine (HASK.out who u t q now2 w4 HOK.out HQ.out (by omega) (HT.out.below HB4.out)).mono ?_
            rintro e w5 ⟨hb5, ⟨_, _, _, rfl⟩ | ⟨_, hb, _⟩ | ⟨h, _⟩⟩
            rotate_left
            · exact absurd hb HNB.out
            · rcases h with h | h
              · exact absurd HNOW.out h
              · omega
            have HR5 := Lib.hid ((hb5.block _ (lt_of_block HR4.out)).trans HR4.out)
            have HB5 := Lib.hid (Below.step HB4.out hb5)
            have b6 : Below w5.heap.size w5 (w5.alloc (.cells #[.string q, .int .i64 (max (now2 + 10) u), .int .i64 (t + 1)] 25)) := (Below.refl _ _).alloc (Nat.le_refl _) _
            have HB6 := Lib.hid (Below.step HB5.out b6)
            have HR6 := Lib.hid ((b6.block _ (lt_of_block HR5.out)).trans HR5.out)
            have ⟨z0, z1, z2⟩ := ls_cells (heap_alloc_new w5 (.cells #[.string q, .int .i64 (max (now2 + 10) u), .int .i64 (t + 1)] 25))
            have HTH : Hid ((w5.alloc (.cells #[.string q, .int .i64 (max (now2 + 10) u), .int .i64 (t + 1)] 25)).there LB 0 (#[.string q, .int .i64 (max (now2 + 10) u), .int .i64 (t + 1)] : Array Value).size) := by have h := row_thereI HR6.out; exact h
            have HBZ := Lib.hid (below_setCells HLB.out [.string q, .int .i64 (max (now2 + 10) u), .int .i64 (t + 1)] 0 HB6.out)
            have HRZ := Lib.hid (setCells_full HR6.out #[.string q, .int .i64 (max (now2 + 10) u), .int .i64 (t + 1)] rfl)
            clear b6 hb5 x0 x1 x2 y0
            go_wp2_with (with_reducible refine wpList_store_mid rfl 25 (.tmp 3) (.tmp 85) rfl LB 0 #[.string q, .int .i64 (max (now2 + 10) u), .int .i64 (t + 1)] rfl rfl HTH.out (HI3.out _ _ _) (HON.out _ _ _) ?_)
            go_roundw
            case rel => exact ⟨i + 1, now2, max until_ (now2 + 10), q, t + 1, q, max (now2 + 10) u, t + 1, by omega, rfl, rfl, rfl, rfl, by go_num, HBZ, HRZ, HAS⟩
            case measure => simp [intOf]; omega
          · have f0 := full_strB hm
            have HWH : Hid (who = mine ∧ u = until_ ∧ t = token) := by
              rcases HN4.out with ⟨h, _⟩ | ⟨_, h⟩
              · exact absurd h hm
              · exact h
            by_cases hqm : q = mine
            · have fq : (mine.toList == q.toList) = true := same_strB hqm.symm
              have HNB : Hid (¬ BusyP who u q now2) := fun h => h.2.1 (HWH.out.1.trans hqm.symm)
              clear hqm
              go_wp2_with fail
              refine (HASK.out who u t q now2 w4 HOK.out HQ.out (by omega) (HT.out.below HB4.out)).mono ?_
              rintro e w5 ⟨hb5, ⟨_, _, _, rfl⟩ | ⟨_, hb, _⟩ | ⟨h, _⟩⟩
              rotate_left
              · exact absurd hb HNB.out
              · rcases h with h | h
                · exact absurd HNOW.out h
                · omega
              have HR5 := Lib.hid ((hb5.block _ (lt_of_block HR4.out)).trans HR4.out)
              have HB5 := Lib.hid (Below.step HB4.out hb5)
              have b6 : Below w5.heap.size w5 (w5.alloc (.cells #[.string q, .int .i64 (max (now2 + 10) u), .int .i64 (t + 1)] 25)) := (Below.refl _ _).alloc (Nat.le_refl _) _
              have HB6 := Lib.hid (Below.step HB5.out b6)
              have HR6 := Lib.hid ((b6.block _ (lt_of_block HR5.out)).trans HR5.out)
              have ⟨z0, z1, z2⟩ := ls_cells (heap_alloc_new w5 (.cells #[.string q, .int .i64 (max (now2 + 10) u), .int .i64 (t + 1)] 25))
              have HTH : Hid ((w5.alloc (.cells #[.string q, .int .i64 (max (now2 + 10) u), .int .i64 (t + 1)] 25)).there LB 0 (#[.string q, .int .i64 (max (now2 + 10) u), .int .i64 (t + 1)] : Array Value).size) := by have h := row_thereI HR6.out; exact h
              have HBZ := Lib.hid (below_setCells HLB.out [.string q, .int .i64 (max (now2 + 10) u), .int .i64 (t + 1)] 0 HB6.out)
              have HRZ := Lib.hid (setCells_full HR6.out #[.string q, .int .i64 (max (now2 + 10) u), .int .i64 (t + 1)] rfl)
              clear b6 hb5 x0 x1 x2 y0
              go_wp2_with (with_reducible refine wpList_store_mid rfl 25 (.tmp 3) (.tmp 85) rfl LB 0 #[.string q, .int .i64 (max (now2 + 10) u), .int .i64 (t + 1)] rfl rfl HTH.out (HI3.out _ _ _) (HON.out _ _ _) ?_)
              go_roundw
              case rel => exact ⟨i + 1, now2, max until_ (now2 + 10), q, t + 1, q, max (now2 + 10) u, t + 1, by omega, rfl, rfl, rfl, rfl, by go_num, HBZ, HRZ, HAS⟩
              case measure => simp [intOf]; omega
            · have fq : (mine.toList == q.toList) = false := other_strB (fun e => hqm e.symm)
              have HQM : Hid (q ≠ mine) := hqm
              clear hqm
              by_cases hu : now2 < u
              · have HBUSY : Hid (BusyP who u q now2) := ⟨by rw [HWH.out.1]; exact hm, fun e => HQM.out (e.symm.trans HWH.out.1), hu⟩
                have fu : ¬ until_ ≤ now2 := by have := HWH.out.2.1; omega
                clear hu hm
                go_wp2_with fail
                refine (HASK.out who u t q now2 w4 HOK.out HQ.out (by omega) (HT.out.below HB4.out)).mono ?_
                rintro e w5 ⟨hb5, ⟨_, hb, _⟩ | ⟨_, _, rfl⟩ | ⟨h, _⟩⟩
                · exact absurd HBUSY.out hb
                rotate_left
                · rcases h with h | h
                  · exact absurd HNOW.out h
                  · omega
                have HR5 := Lib.hid ((hb5.block _ (lt_of_block HR4.out)).trans HR4.out)
                have HB5 := Lib.hid (Below.step HB4.out hb5)
                have b6 : Below w5.heap.size w5 (w5.alloc (.cells #[.string ⟨#[]⟩, .int .i64 0, .int .i64 0] 25)) := (Below.refl _ _).alloc (Nat.le_refl _) _
                have HB6 := Lib.hid (Below.step HB5.out b6)
                have HR6 := Lib.hid ((b6.block _ (lt_of_block HR5.out)).trans HR5.out)
                clear b6 hb5 x0 x1 x2 y0
                go_wp2_with fail
                go_roundw
                case rel => exact ⟨i + 1, now2, until_, mine, token, who, u, t, by omega, rfl, rfl, rfl, rfl, by go_num, HB6, HR6, HKP⟩
                case measure => simp [intOf]; omega
              · have HNB : Hid (¬ BusyP who u q now2) := fun h => hu h.2.2
                have fu : until_ ≤ now2 := by have := HWH.out.2.1; omega
                clear hu hm
                go_wp2_with fail
                refine (HASK.out who u t q now2 w4 HOK.out HQ.out (by omega) (HT.out.below HB4.out)).mono ?_
                rintro e w5 ⟨hb5, ⟨_, _, _, rfl⟩ | ⟨_, hb, _⟩ | ⟨h, _⟩⟩
                rotate_left
                · exact absurd hb HNB.out
                · rcases h with h | h
                  · exact absurd HNOW.out h
                  · omega
                have HR5 := Lib.hid ((hb5.block _ (lt_of_block HR4.out)).trans HR4.out)
                have HB5 := Lib.hid (Below.step HB4.out hb5)
                have b6 : Below w5.heap.size w5 (w5.alloc (.cells #[.string q, .int .i64 (max (now2 + 10) u), .int .i64 (t + 1)] 25)) := (Below.refl _ _).alloc (Nat.le_refl _) _
                have HB6 := Lib.hid (Below.step HB5.out b6)
                have HR6 := Lib.hid ((b6.block _ (lt_of_block HR5.out)).trans HR5.out)
                have ⟨z0, z1, z2⟩ := ls_cells (heap_alloc_new w5 (.cells #[.string q, .int .i64 (max (now2 + 10) u), .int .i64 (t + 1)] 25))
                have HTH : Hid ((w5.alloc (.cells #[.string q, .int .i64 (max (now2 + 10) u), .int .i64 (t + 1)] 25)).there LB 0 (#[.string q, .int .i64 (max (now2 + 10) u), .int .i64 (t + 1)] : Array Value).size) := by have h := row_thereI HR6.out; exact h
                have HBZ := Lib.hid (below_setCells HLB.out [.string q, .int .i64 (max (now2 + 10) u), .int .i64 (t + 1)] 0 HB6.out)
                have HRZ := Lib.hid (setCells_full HR6.out #[.string q, .int .i64 (max (now2 + 10) u), .int .i64 (t + 1)] rfl)
                clear b6 hb5 x0 x1 x2 y0
                go_wp2_with (with_reducible refine wpList_store_mid rfl 25 (.tmp 3) (.tmp 85) rfl LB 0 #[.string q, .int .i64 (max (now2 + 10) u), .int .i64 (t + 1)] rfl rfl HTH.out (HI3.out _ _ _) (HON.out _ _ _) ?_)
                go_roundw
                case rel => exact ⟨i + 1, now2, max until_ (now2 + 10), q, t + 1, q, max (now2 + 10) u, t + 1, by omega, rfl, rfl, rfl, rfl, by go_num, HBZ, HRZ, HAS⟩
                case measure => simp [intOf]; omega
        · by_cases hm : mine.size = 0
          · have f0 := empty_strB hm
            have HNB : Hid (¬ BusyP who u q now2) := fun h => h.1 (by
              rcases HN4.out with ⟨_, hw⟩ | ⟨⟨k', hk', e⟩, _, _, _⟩
              · exact hw
              · have := (askS_ok k' hk').2; rw [← e] at this; omega)
            go_wp2_with fail
            refine (HASK.out who u t q now2 w4 HOK.out HQ.out (by omega) (HT.out.below HB4.out)).mono ?_
            rintro e w5 ⟨hb5, ⟨_, _, _, rfl⟩ | ⟨_, hb, _⟩ | ⟨h, _⟩⟩
            rotate_left
            · exact absurd hb HNB.out
            · rcases h with h | h
              · exact absurd HNOW.out h
              · omega
            have HR5 := Lib.hid ((hb5.block _ (lt_of_block HR4.out)).trans HR4.out)
            have HB5 := Lib.hid (Below.step HB4.out hb5)
            have b6 : Below w5.heap.size w5 (w5.alloc (.cells #[.string q, .int .i64 (max (now2 + 10) u), .int .i64 (t + 1)] 25)) := (Below.refl _ _).alloc (Nat.le_refl _) _
            have HB6 := Lib.hid (Below.step HB5.out b6)
            have HR6 := Lib.hid ((b6.block _ (lt_of_block HR5.out)).trans HR5.out)
            have ⟨z0, z1, z2⟩ := ls_cells (heap_alloc_new w5 (.cells #[.string q, .int .i64 (max (now2 + 10) u), .int .i64 (t + 1)] 25))
            have HTH : Hid ((w5.alloc (.cells #[.string q, .int .i64 (max (now2 + 10) u), .int .i64 (t + 1)] 25)).there LB 0 (#[.string q, .int .i64 (max (now2 + 10) u), .int .i64 (t + 1)] : Array Value).size) := by have h := row_thereI HR6.out; exact h
            have HBZ := Lib.hid (below_setCells HLB.out [.string q, .int .i64 (max (now2 + 10) u), .int .i64 (t + 1)] 0 HB6.out)
            have HRZ := Lib.hid (setCells_full HR6.out #[.string q, .int .i64 (max (now2 + 10) u), .int .i64 (t + 1)] rfl)
            clear b6 hb5 x0 x1 x2 y0
            go_wp2_with (with_reducible refine wpList_store_mid rfl 25 (.tmp 3) (.tmp 85) rfl LB 0 #[.string q, .int .i64 (max (now2 + 10) u), .int .i64 (t + 1)] rfl rfl HTH.out (HI3.out _ _ _) (HON.out _ _ _) ?_)
            go_roundw
            case rel => exact ⟨i + 1, now2, max until_ (now2 + 10), q, t + 1, q, max (now2 + 10) u, t + 1, by omega, rfl, rfl, rfl, rfl, by go_num, HBZ, HRZ, HAS⟩
            case measure => simp [intOf]; omega
          · have f0 := full_strB hm
            have HWH : Hid (who = mine ∧ u = until_ ∧ t = token) := by
              rcases HN4.out with ⟨h, _⟩ | ⟨_, h⟩
              · exact absurd h hm
              · exact h
            have HQM : Hid (q ≠ mine) := fun e => by rw [same_strB e] at fkm; cases fkm
            have fq : (mine.toList == q.toList) = false := other_strB (fun e => HQM.out e.symm)
            by_cases hu : now2 < u
            · have HBUSY : Hid (BusyP who u q now2) := ⟨by rw [HWH.out.1]; exact hm, fun e => HQM.out (e.symm.trans HWH.out.1), hu⟩
              have fu : ¬ until_ ≤ now2 := by have := HWH.out.2.1; omega
              clear hu hm
              go_wp2_with fail
              refine (HASK.out who u t q now2 w4 HOK.out HQ.out (by omega) (HT.out.below HB4.out)).mono ?_
              rintro e w5 ⟨hb5, ⟨_, hb, _⟩ | ⟨_, _, rfl⟩ | ⟨h, _⟩⟩
              · exact absurd HBUSY.out hb
              rotate_left
              · rcases h with h | h
                · exact absurd HNOW.out h
                · omega
              have HR5 := Lib.hid ((hb5.block _ (lt_of_block HR4.out)).trans HR4.out)
              have HB5 := Lib.hid (Below.step HB4.out hb5)
              have b6 : Below w5.heap.size w5 (w5.alloc (.cells #[.string ⟨#[]⟩, .int .i64 0, .int .i64 0] 25)) := (Below.refl _ _).alloc (Nat.le_refl _) _
              have HB6 := Lib.hid (Below.step HB5.out b6)
              have HR6 := Lib.hid ((b6.block _ (lt_of_block HR5.out)).trans HR5.out)
              clear b6 hb5 x0 x1 x2 y0
              go_wp2_with fail
              go_roundw
              case rel => exact ⟨i + 1, now2, until_, mine, token, who, u, t, by omega, rfl, rfl, rfl, rfl, by go_num, HB6, HR6, HKP⟩
              case measure => simp [intOf]; omega
            · have HNB : Hid (¬ BusyP who u q now2) := fun h => hu h.2.2
              have fu : until_ ≤ now2 := by have := HWH.out.2.1; omega
              clear hu hm
              go_wp2_with fail
              refine (HASK.out who u t q now2 w4 HOK.out HQ.out (by omega) (HT.out.below HB4.out)).mono ?_
              rintro e w5 ⟨hb5, ⟨_, _, _, rfl⟩ | ⟨_, hb, _⟩ | ⟨h, _⟩⟩
              rotate_left
              · exact absurd hb HNB.out
              · rcases h with h | h
                · exact absurd HNOW.out h
                · omega
              have HR5 := Lib.hid ((hb5.block _ (lt_of_block HR4.out)).trans HR4.out)
              have HB5 := Lib.hid (Below.step HB4.out hb5)
              have b6 : Below w5.heap.size w5 (w5.alloc (.cells #[.string q, .int .i64 (max (now2 + 10) u), .int .i64 (t + 1)] 25)) := (Below.refl _ _).alloc (Nat.le_refl _) _
              have HB6 := Lib.hid (Below.step HB5.out b6)
              have HR6 := Lib.hid ((b6.block _ (lt_of_block HR5.out)).trans HR5.out)
              have ⟨z0, z1, z2⟩ := ls_cells (heap_alloc_new w5 (.cells #[.string q, .int .i64 (max (now2 + 10) u), .int .i64 (t + 1)] 25))
              have HTH : Hid ((w5.alloc (.cells #[.string q, .int .i64 (max (now2 + 10) u), .int .i64 (t + 1)] 25)).there LB 0 (#[.string q, .int .i64 (max (now2 + 10) u), .int .i64 (t + 1)] : Array Value).size) := by have h := row_thereI HR6.out; exact h
              have HBZ := Lib.hid (below_setCells HLB.out [.string q, .int .i64 (max (now2 + 10) u), .int .i64 (t + 1)] 0 HB6.out)
              have HRZ := Lib.hid (setCells_full HR6.out #[.string q, .int .i64 (max (now2 + 10) u), .int .i64 (t + 1)] rfl)
              clear b6 hb5 x0 x1 x2 y0
              go_wp2_with (with_reducible refine wpList_store_mid rfl 25 (.tmp 3) (.tmp 85) rfl LB 0 #[.string q, .int .i64 (max (now2 + 10) u), .int .i64 (t + 1)] rfl rfl HTH.out (HI3.out _ _ _) (HON.out _ _ _) ?_)
              go_roundw
              case rel => exact ⟨i + 1, now2, max until_ (now2 + 10), q, t + 1, q, max (now2 + 10) u, t + 1, by omega, rfl, rfl, rfl, rfl, by go_num, HBZ, HRZ, HAS⟩
              case measure => simp [intOf]; omega
    · have m1 : ¬ (i : Int) < (l.length : Int) := by omega
      go_wp2_with fail
      go_ret
      exact ⟨rfl, HBR.out⟩
end Go.Proofs.YtokckcmkbnhhhaaDoor
