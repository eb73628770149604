/- The walk of LeaseFence. Printed by wip/gen_leasefence.py. -/
import Derived.Test.YtokckcmkbnhhhaaDoorFenceMap
import Derived.Lib.SmallJoins
import Derived.Test.YtokckcmkbnhhhaaDoorActOpen
namespace Go.Proofs.YtokckcmkbnhhhaaDoor
open Go.RowKit Plain Go.Maps
theorem invKS (key : Value) (kl : Lit) (hk : keyOf Tryd.prog 9 key = some kl) : ∃ x : List UInt8, key = encStr x := by
  obtain ⟨x, hx, _⟩ := Maps.keyOf_str Tryd.underlying9 hk
  exact ⟨x, hx⟩
theorem invVS (v : Value) (y : DataW Unit × List MemPlace) (hv : plainElem Tryd.prog 3 v = some y) : ∃ c : Int, v = Value.int .i64 c := by
  obtain ⟨c, rfl, _⟩ := plainElem_int_inv Tryd.underlying3 hv
  exact ⟨c, rfl⟩
theorem alloc_3f (w : World) (o1 o2 o3 : Obj) : Below w.heap.size w (((w.alloc o1).alloc o2).alloc o3) ∧ (((w.alloc o1).alloc o2).alloc o3).heap[w.heap.size]? = some o1 ∧ (((w.alloc o1).alloc o2).alloc o3).heap[w.heap.size + 1]? = some o2 ∧ (((w.alloc o1).alloc o2).alloc o3).heap[w.heap.size + 2]? = some o3 := by
  have h1 : ((w.alloc o1).alloc o2).heap[w.heap.size]? = some o1 := (Below.heap_alloc (w.alloc o1) o2 _ (by simp)).trans (heap_alloc_new _ _)
  have h2 : ((w.alloc o1).alloc o2).heap[w.heap.size + 1]? = some o2 := by
    have h := heap_alloc_new (w.alloc o1) o2
    have e : (w.alloc o1).heap.size = w.heap.size + 1 := by simp
    rwa [e] at h
  refine ⟨(((Below.refl _ _).alloc (Nat.le_refl _) _).alloc (by simp) _).alloc (by simp; omega) _, (Below.heap_alloc _ o3 _ (lt_of_block h1)).trans h1, (Below.heap_alloc _ o3 _ (lt_of_block h2)).trans h2, ?_⟩
  have h := heap_alloc_new ((w.alloc o1).alloc o2) o3
  have e : ((w.alloc o1).alloc o2).heap.size = w.heap.size + 2 := by simp
  rwa [e] at h
set_option maxRecDepth 100000 in
set_option maxHeartbeats 2000000 in
theorem leaseFence_any (a : Option Addr) (cap : Nat) (l : List Act3) (w : World) (h : SAt 3 aC w a l) (hl : l.length ≤ 9223372036854775807) (hT : Tabs w) :
    Calls Tryd.prog 4 #[.slice a l.length cap] w fun e w' => e = .returned (.bool true) ∧ Below w.heap.size w w' := by
  have HON : ∀ (a : ByteArray) (x y : Int), (#[.string a, .int .i64 x, .int .i64 y] : Array Value).all (·.oneCell') = true := fun a x y => by simp [Value.oneCell']
  have HI3 : ∀ (a : ByteArray) (x y : Int), (Tryd.prog.info? 25).map (·.size) = some (#[.string a, .int .i64 x, .int .i64 y] : Array Value).size := fun _ _ _ => info_lease
  have HON := Lib.hid HON
  have HI3 := Lib.hid HI3
  have HS := Lib.hid h
  have HT := Lib.hid hT
  have HAD := Lib.hid (asked_any w hT)
  have HAK := Lib.hid asker_any
  have HASK := Lib.hid ask_any
  have HGIV := Lib.hid give_any
  have HENT := Lib.hid enter_any
  have hmm := @run_makeMap Tryd.prog
  clear h hT
  go_enter Tryd.func4, Tryd.ntmps4
  go_wp2_with fail
  refine HAD.out.mono ?_
  rintro e w1 ⟨rfl, hb1⟩
  have hfs : FS w w1.heap.size ⟨#[]⟩ 0 0 0 none 0 [] 0 (.map []) (((w1.alloc (.cells #[.string ⟨#[]⟩, .int .i64 0, .int .i64 0] 25)).alloc (.cells #[.int .i64 0, .slice none 0 0] 38)).alloc (.map #[] 0)) := by
    obtain ⟨b, r1, r2, r3⟩ := alloc_3f w1 (.cells #[.string ⟨#[]⟩, .int .i64 0, .int .i64 0] 25) (.cells #[.int .i64 0, .slice none 0 0] 38) (.map #[] 0)
    refine ⟨Below.step hb1 b, r1, r2, ?_, World.ownsRow_nil _ _ _ _⟩
    exact Go.Joins.ownsMap_empty r3
  have HFS := Lib.hid hfs
  have HLB : Hid (w.heap.size ≤ w1.heap.size) := hb1.size
  clear hb1 hfs HAD
  go_wp2_with fail
  generalize ((w1.alloc (.cells #[.string ⟨#[]⟩, .int .i64 0, .int .i64 0] 25)).alloc (.cells #[.int .i64 0, .slice none 0 0] 38)).alloc (.map #[] 0) = w2 at *
  generalize hLB0 : w1.heap.size = LB at *
  clear hLB0
  go_loopw [6, 24] (fun sv iv wr => ∃ (i n : Nat) (who : ByteArray) (u t seen : Int) (ta : Option Addr) (tc : Nat) (texts : List ByteArray) (D : DataW Unit), i ≤ l.length ∧ sv = .int .i64 seen ∧ iv = .int .i64 (i : Int) ∧ Hid (FS w LB who u t seen ta tc texts n D wr) ∧ Hid (DI D t) ∧ Hid (LsOk who u t) ∧ Hid (0 ≤ seen ∧ seen ≤ 1099511627776) ∧ Hid (n ≤ i)) (fun _ iv _ => l.length - (intOf iv).toNat)
  case atStart => exact ⟨0, 0, ⟨#[]⟩, 0, 0, 0, none, 0, [], .map [], by omega, rfl, rfl, HFS, Lib.hid DI.empty, Lib.hid lsOk_zero, Lib.hid ⟨by decide, by decide⟩, Lib.hid (Nat.le_refl _)⟩
  case round =>
    obtain ⟨i, n, who, u, t, seen, ta, tc, texts, D, hi, rfl, rfl, HF, HD, HOK, HSN, HNI⟩ := hrel
    by_cases hlt : i < l.length
    · have m1 : (i : Int) < (l.length : Int) := by omega
      obtain ⟨g, off, rfl, hg, hr⟩ := (HS.out.below HF.out.1) i hlt
      have a0 := hr 0 _ rfl
      have a1 := hr 1 _ rfl
      have a2 := hr 2 _ rfl
      clear hg hr
      generalize l[i] = x at *
      obtain ⟨kd, fr, tt⟩ := x
      simp only [Nat.add_zero] at a0
      have HFA := Lib.hid (HF.out.alloc (.cells #[.int .i64 kd, .int .i64 fr, .int .i64 tt] 27))
      have HRA := Lib.hid (heap_alloc_new wr (.cells #[.int .i64 kd, .int .i64 fr, .int .i64 tt] 27))
      have y1 := cell_of_row _ _ 1 _ _ _ HRA.out
      simp only [List.getElem?_toArray, List.getElem?_cons_succ, List.getElem?_cons_zero] at y1
      go_wp2_with fail
      clear a0 a1 a2
      generalize wr.alloc (.cells #[.int .i64 kd, .int .i64 fr, .int .i64 tt] 27) = wa at *
      generalize wr.heap.size = AB at *
      refine (HAK.out fr wa).mono ?_
      rintro e w4 ⟨hb4, k, hk, rfl⟩
      have HF4 := Lib.hid (HFA.out.below hb4)
      have HA4 := Lib.hid ((hb4.block _ (lt_of_block HRA.out)).trans HRA.out)
      have ⟨hq, hqz⟩ := askS_ok k hk
      have HQ := Lib.hid hq
      have HQK : Hid (∃ k, k < 3 ∧ askS k = askS k) := ⟨k, hk, rfl⟩
      clear y1 hb4 hq hk
      have y0 := cell_of_row _ _ 0 _ _ _ HA4.out
      have y2 := cell_of_row _ _ 2 _ _ _ HA4.out
      simp only [List.getElem?_toArray, List.getElem?_cons_succ, List.getElem?_cons_zero] at y0 y2
      generalize askS k = q at *
      have ⟨x0, x1, x2⟩ := ls_cells HF4.out.2.1
      have ⟨v0, v1⟩ := fs_cells HF4.out.2.2.1
      obtain ⟨c, ⟨hc0, hct⟩, hlk⟩ := tk_look HF4.out.2.2.2.1 HD.out q (by omega)
      have HLK := Lib.hid hlk
      have lk4 := hlk w4 _ HF4.out.2.2.2.1
      have ⟨t1, t2⟩ := HOK.out.2.1
      have HNI2 : Hid (n ≤ i + 1) := by have := HNI.out; show _ ≤ _; omega
      clear hlk
      by_cases k1 : kd = 1
      · have fk1 : (kd == 1) = true := by simp [k1]
        clear k1
        go_wp2_with fail
        refine (HASK.out who u t q tt w4 HOK.out HQ.out (by omega) (HT.out.below HF4.out.1)).mono ?_
        rintro e w5 ⟨hb5, ⟨g1, g2, g3, rfl⟩ | ⟨_, _, rfl⟩ | ⟨_, cc, hcc, rfl⟩⟩
        · have HG1 := Lib.hid g1
          have ht3 : t + 1 ≤ 1099511627776 := by omega
          have HOK2 : Hid (LsOk q (max (tt + 10) u) (t + 1)) := ⟨⟨by have := HOK.out.1; omega, by have := HOK.out.1; omega⟩, ⟨by omega, by omega⟩, by omega, .inr HQ.out⟩
          have HF6 := Lib.hid ((HF4.out.below hb5).alloc (.cells #[.string q, .int .i64 (max (tt + 10) u), .int .i64 (t + 1)] 25))
          have HRM := Lib.hid (heap_alloc_new w5 (.cells #[.string q, .int .i64 (max (tt + 10) u), .int .i64 (t + 1)] 25))
          clear hb5 x0 x1 x2 v0 v1 y0 y2 lk4 g1 g2 g3
          generalize hw6 : w5.alloc (.cells #[.string q, .int .i64 (max (tt + 10) u), .int .i64 (t + 1)] 25) = w6 at *
          generalize hMB : w5.heap.size = MB at *
          go_wp2_with (first
            | (at_range; refine wpList_range_own _ rfl _ 39 rfl 9 3 law_strT Tryd.underlying39 _ (LB + 1 + 1) n D rfl HF6.out.2.2.2.1 ?_; intro w7 hrg7 hg7 hs7)
            | go_in)
          have HRG7 := Lib.hid hrg7
          have HB7 : Hid (Below w6.heap.size w6 w7) := (Below.refl _ _).grown hg7 (Nat.le_refl _) (fun j hj => by cases hj)
          have HL6 : Hid (LB + 1 + 1 < w6.heap.size) := HF6.out.2.2.2.1.lt
          clear hrg7 hg7 hs7 hw6 hMB
          generalize hRB : w6.heap.size = RB at *
          go_frame
          go_wp2_with fail
          go_loopw [14] (fun _ wr => ∃ (left : Lit → Bool) (cnt : Nat), Hid (wr.ranges Tryd.prog 9 (plainElem Tryd.prog 3) (LB + 1 + 1) RB n D left cnt) ∧ Hid (Below RB w6 wr)) (fun _ wr => wr.rangeLeft (LB + 1 + 1) RB)
          case atStart => exact ⟨_, _, HRG7, HB7⟩
          case round =>
            obtain ⟨left, cnt, HRG, HBR⟩ := hrel
            have HF8 : Hid (FS w LB who u t seen ta tc texts n D wr) := HF6.out.below (by rw [hRB]; exact HBR.out)
            go_wp2_with (first
              | (at_next; refine wpList_next_ranges _ rfl _ rfl 9 law_strT (plainElem Tryd.prog 3) encStr (Value.int .i64) invKS invVS (LB + 1 + 1) RB n D left cnt rfl HRG.out ?_ ?_)
              | go_in)
            · intro hc0 hl0
              clear hc0 hl0
              have HRM8 := Lib.hid ((HBR.out.block _ (by rw [← hRB]; exact lt_of_block HRM.out)).trans HRM.out)
              have ⟨z0, z1, z2⟩ := ls_cells HRM8.out
              have HTH : Hid (wr.there LB 0 (#[.string q, .int .i64 (max (tt + 10) u), .int .i64 (t + 1)] : Array Value).size) := by have h := row_thereI HF8.out.2.1; exact h
              have HF9 := Lib.hid (HF8.out.lease HLB.out q (max (tt + 10) u) (t + 1))
              have hnm : n < maxLen := by have := HNI.out; unfold maxLen; omega
              have HKEY : Hid (keyOf Tryd.prog 9 (.string q) = some (.string q.data.toList)) := Go.WideMaps.keyOf_string_mk Tryd.underlying9 (by unfold maxLen; omega)
              have HVAL : Hid (plainElem (H := Unit) Tryd.prog 3 (.int .i64 (t + 1)) = some (.lit (.int .i64 (t + 1)), [])) := plainElem_int Tryd.underlying3 (Go.WalkArith.wf_i64 (by omega))
              have HDP := Lib.hid (HD.out.put HF9.out.2.2.2.1.isMap t1 q.data.toList)
              have HNM := Lib.hid hnm
              clear hnm
              go_wp2_with (first
                | (with_reducible refine wpList_store_mid rfl 25 (.tmp 3) (.tmp 57) rfl LB 0 #[.string q, .int .i64 (max (tt + 10) u), .int .i64 (t + 1)] rfl rfl HTH.out (HI3.out _ _ _) (HON.out _ _ _) ?_)
                | (at_mapUpdate; refine wpList_mapUpdate_own _ rfl _ _ _ 39 rfl 9 3 law_strT Tryd.underlying39 (plainElem Tryd.prog 3) (LB + 1 + 1) n D rfl HF9.out.2.2.2.1 HNM.out _ _ _ rfl rfl HKEY.out _ [] HVAL.out ?_; intro w9 hown9 hg9; go_frame)
                | go_in)
              have HF10 := Lib.hid (HF9.out.map HLB.out hg9 hown9)
              have HN1 : Hid (n + 1 ≤ i + 1) := by have := HNI.out; show _ ≤ _; omega
              clear hg9 hown9
              go_wp2_with fail
              go_roundw
              case rel => exact ⟨i + 1, n + 1, q, max (tt + 10) u, t + 1, seen, ta, tc, texts, _, by omega, rfl, by go_num, HF10, HDP, HOK2, HSN, HN1⟩
              case measure => simp [intOf]; omega
            · intro x c8 kl yd yp w8 cnt8 hkey hlk8 hv hat hrg8 hlt8 hg8 hs8 hen
              have hle : ¬ t + 1 ≤ c8 := by
                obtain ⟨c9, e9, hc9, _⟩ := plainElem_int_inv Tryd.underlying3 hv
                injection e9 with _ e9
                subst e9
                have hat0 := hat (.lit (.int .i64 0))
                simp only [Prod.mk.injEq] at hc9
                have := HD.out kl c8 (hat0.trans hc9.1)
                omega
              have HRG8 := Lib.hid hrg8
              have HB8 : Hid (Below RB w6 w8) := HBR.out.grown hg8 (by rw [← hRB]; exact HBR.out.size) (fun j hj => by cases hj; exact Nat.le_refl _)
              have HLT8 := Lib.hid hlt8
              clear hs8 hkey hlk8 hv hat hrg8 hlt8 hg8
              go_wp2_with fail
              go_roundw
              case rel => exact ⟨_, cnt8, HRG8, HB8⟩
              case measure => rw [HRG8.out.left_eq, HRG.out.left_eq]; exact HLT8.out
        · have HF6 := Lib.hid ((HF4.out.below hb5).alloc (.cells #[.string ⟨#[]⟩, .int .i64 0, .int .i64 0] 25))
          clear hb5 x0 x1 x2 v0 v1 y0 y2 lk4
          go_wp2_with fail
          go_roundw
          case rel => exact ⟨i + 1, n, who, u, t, seen, ta, tc, texts, D, by omega, rfl, by go_num, HF6, HD, HOK, HSN, HNI2⟩
          case measure => simp [intOf]; omega
        · have fe : (cc == 0) = false := by simpa using hcc
          clear hcc
          have HF6 := Lib.hid ((HF4.out.below hb5).alloc (.cells #[.string ⟨#[]⟩, .int .i64 0, .int .i64 0] 25))
          clear hb5 x0 x1 x2 v0 v1 y0 y2 lk4
          go_wp2_with fail
          go_roundw
          case rel => exact ⟨i + 1, n, who, u, t, seen, ta, tc, texts, D, by omega, rfl, by go_num, HF6, HD, HOK, HSN, HNI2⟩
          case measure => simp [intOf]; omega
      · have fk1 : (kd == 1) = false := by simpa using k1
        by_cases k2 : kd = 2
        · have fk2 : (kd == 2) = true := by simp [k2]
          clear k1 k2
          go_wp2_with fail
          refine (HGIV.out who u t c tt w4 HOK.out (HT.out.below HF4.out.1)).mono ?_
          rintro e w5 ⟨hb5, ⟨g1, g2, g3, rfl⟩ | ⟨_, cc, hcc, rfl⟩⟩
          · have HOK2 : Hid (LsOk ⟨#[]⟩ (min u tt) t) := ⟨⟨by have := HOK.out.1; omega, by have := HOK.out.1; omega⟩, HOK.out.2.1, by decide, .inl rfl⟩
            have HF6 := Lib.hid ((HF4.out.below hb5).alloc (.cells #[.string ⟨#[]⟩, .int .i64 (min u tt), .int .i64 t] 25))
            have ⟨z0, z1, z2⟩ := ls_cells (heap_alloc_new w5 (.cells #[.string ⟨#[]⟩, .int .i64 (min u tt), .int .i64 t] 25))
            have HTH : Hid ((w5.alloc (.cells #[.string ⟨#[]⟩, .int .i64 (min u tt), .int .i64 t] 25)).there LB 0 (#[.string ⟨#[]⟩, .int .i64 (min u tt), .int .i64 t] : Array Value).size) := by have h := row_thereI HF6.out.2.1; exact h
            have HF7 := Lib.hid (HF6.out.lease HLB.out ⟨#[]⟩ (min u tt) t)
            clear hb5 x0 x1 x2 v0 v1 y0 y2 lk4 g1 g2 g3
            go_wp2_with (with_reducible refine wpList_store_mid rfl 25 (.tmp 3) (.tmp 73) rfl LB 0 #[.string ⟨#[]⟩, .int .i64 (min u tt), .int .i64 t] rfl rfl HTH.out (HI3.out _ _ _) (HON.out _ _ _) ?_)
            go_roundw
            case rel => exact ⟨i + 1, n, ⟨#[]⟩, min u tt, t, seen, ta, tc, texts, D, by omega, rfl, by go_num, HF7, HD, HOK2, HSN, HNI2⟩
            case measure => simp [intOf]; omega
          · have fe : (cc == 0) = false := by simpa using hcc
            clear hcc
            have HF6 := Lib.hid ((HF4.out.below hb5).alloc (.cells #[.string ⟨#[]⟩, .int .i64 0, .int .i64 0] 25))
            clear hb5 x0 x1 x2 v0 v1 y0 y2 lk4
            go_wp2_with fail
            go_roundw
            case rel => exact ⟨i + 1, n, who, u, t, seen, ta, tc, texts, D, by omega, rfl, by go_num, HF6, HD, HOK, HSN, HNI2⟩
            case measure => simp [intOf]; omega
        · have fk2 : (kd == 2) = false := by simpa using k2
          by_cases k3 : kd = 3
          · have fk3 : (kd == 3) = true := by simp [k3]
            clear k1 k2 k3
            obtain ⟨ta', tc', hv, _, _, hsat⟩ := SAt.own (c := sC) HF4.out.2.2.2.2 sC_length
            injection hv with e1 e2 e3
            subst e1 e3
            have HSAT := Lib.hid hsat
            clear hsat
            go_wp2_with fail
            refine (HENT.out seen ta tc texts c q w4 HSN.out (by omega) hqz HSAT.out).mono ?_
            rintro e w5 ⟨hb5, ⟨g1, g2, a5, c5, rfl, hown⟩ | ⟨cc, hcc, rfl⟩⟩
            · have HLEN : (texts ++ [q]).length = texts.length + 1 := by simp
              have H45 : LB + 3 ≤ w4.heap.size := by have := HF4.out.2.2.2.1.lt; omega
              have HF5 := HF4.out.below hb5
              have ht100 : (texts.length : Int) < 100 := by omega
              have i5 : IntKind.i64.wrap ((texts.length : Int) + 1) = (texts.length : Int) + 1 := wraps_i64 _ (by omega) (by omega)
              have hcs : ¬ c < seen := by omega
              have RD := Lib.hid (heap_alloc_new w5 (.cells #[.int .i64 c, .slice a5 (texts.length + 1) c5] 38))
              have HF6 := Lib.hid (HF5.alloc (.cells #[.int .i64 c, .slice a5 (texts.length + 1) c5] 38))
              have HO6 := Lib.hid ((own_base hown H45).alloc (.cells #[.int .i64 c, .slice a5 (texts.length + 1) c5] 38))
              have lk6 := HLK.out _ _ HF6.out.2.2.2.1
              have ⟨p0, p1⟩ := fs_cells RD.out
              have ⟨r0, r1⟩ := fs_cells HF6.out.2.2.1
              have f9 : ((((texts.length : Nat) : Int) + 1) != (((texts.length : Nat) : Int) + 1)) = false := by simp
              clear hb5 x0 x1 x2 v0 v1 y0 y2 lk4 hown HF5 H45
              go_wp2_with fail
              generalize w5.alloc (.cells #[.int .i64 c, .slice a5 (texts.length + 1) c5] 38) = W at *
              generalize w5.heap.size = TB at *
              have ⟨s0, s1, s2, s3⟩ := row2_steps HF6.out.2.2.1 (.int .i64 c)
              have HFZ := Lib.hid (HF6.out.fence HLB.out (seen' := c) (texts' := texts ++ [q]) HO6.out)
              rw [HLEN] at HFZ
              have lk7 := HLK.out _ _ HFZ.out.2.2.2.1
              have lk8 : (Instr.lookup 39 (.map (some (LB + 2))) (.string q) false).run Tryd.prog ((W.setCell ⟨LB + 1, 0, none⟩ (.int .i64 c)).setCell ⟨LB + 1, 1, none⟩ (.slice a5 (texts.length + 1) c5)) = .ok (.int .i64 c) ((W.setCell ⟨LB + 1, 0, none⟩ (.int .i64 c)).setCell ⟨LB + 1, 1, none⟩ (.slice a5 (texts.length + 1) c5)) := lk7
              have HC2 : Hid (0 ≤ c ∧ c ≤ 1099511627776) := ⟨hc0, by omega⟩
              have lk9 : (Instr.lookup 39 (.map (some (LB + 2))) (.string q) false).run Tryd.prog W.drew = .ok (.int .i64 c) W.drew := HLK.out _ _ (HF6.out.below (Below.drew (Below.refl _ _))).2.2.2.1
              have lk10 : (Instr.lookup 39 (.map (some (LB + 2))) (.string q) false).run Tryd.prog ((W.setCell ⟨LB + 1, 0, none⟩ (.int .i64 c)).setCell ⟨LB + 1, 1, none⟩ (.slice a5 (texts.length + 1) c5)).drew = .ok (.int .i64 c) ((W.setCell ⟨LB + 1, 0, none⟩ (.int .i64 c)).setCell ⟨LB + 1, 1, none⟩ (.slice a5 (texts.length + 1) c5)).drew := HLK.out _ _ (HFZ.out.below (Below.drew (Below.refl _ _))).2.2.2.1
              clear lk7 f9 HLEN i5 hcs ht100
              go_region
              go_wp2_with fail
              go_roundw
              case rel => exact ⟨i + 1, n, who, u, t, c, a5, c5, texts ++ [q], D, by omega, rfl, by go_num, Lib.hid (HFZ.out.below (Below.drew (Below.refl _ _))), HD, HOK, HC2, HNI2⟩
              case measure => simp [intOf]; omega
            · have fe : (cc == 0) = false := by simpa using hcc
              clear hcc
              have HF6 := Lib.hid ((HF4.out.below hb5).alloc (.cells #[.int .i64 0, .slice none 0 0] 38))
              clear hb5 x0 x1 x2 v0 v1 y0 y2 lk4
              go_wp2_with fail
              go_roundw
              case rel => exact ⟨i + 1, n, who, u, t, seen, ta, tc, texts, D, by omega, rfl, by go_num, HF6, HD, HOK, HSN, HNI2⟩
              case measure => simp [intOf]; omega
          · have fk3 : (kd == 3) = false := by simpa using k3
            clear k1 k2 k3
            go_wp2_with fail
            go_roundw
            case rel => exact ⟨i + 1, n, who, u, t, seen, ta, tc, texts, D, by omega, rfl, by go_num, HF4, HD, HOK, HSN, HNI2⟩
            case measure => simp [intOf]; omega
    · have m1 : ¬ (i : Int) < (l.length : Int) := by omega
      go_wp2_with fail
      go_ret
      exact ⟨rfl, HF.out.1⟩
end Go.Proofs.YtokckcmkbnhhhaaDoor
