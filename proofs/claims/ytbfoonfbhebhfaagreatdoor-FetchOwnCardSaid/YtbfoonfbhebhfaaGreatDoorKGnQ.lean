/- Joined: TreeNode. -/
import Derived.Test.YtbfoonfbhebhfaaGreatDoorKGnO
import Derived.Test.YtbfoonfbhebhfaaGreatDoorKGnP
namespace Go.Proofs.YtbfoonfbhebhfaaGreatDoor
open Go.RowKit Plain
def NodeEnd (R : Nat) (l : ByteArray) (e : Nat) (w0 : World) (en : Ending) (w : World) : Prop :=
 ∃ (m : MN) (l' : ByteArray) (e' : Nat), en = .returned (.agg (mnC m).toArray) ∧ RSt w R l' e' ∧ BX R w0 w ∧ w.ownsRow w0.heap.size 30 8 (.slice m.2.2.2.2.2.1.1 m.2.2.2.2.2.1.2.2.length m.2.2.2.2.2.1.2.1) m.2.2.2.2.2.1.2.2.length (m.2.2.2.2.2.1.2.2.flatMap idC) ∧ MZ m ∧ (-9223372036854775808 ≤ m.2.2.2.1 ∧ m.2.2.2.1 ≤ 9223372036854775807) ∧ l'.size ≤ l.size ∧ ((e = 0 ∧ pNode (strN l) = some (ndOf m, strN l') ∧ e' = 0) ∨ ((e ≠ 0 ∨ pNode (strN l) = none) ∧ e' ≠ 0))
set_option maxRecDepth 100000 in
set_option maxHeartbeats 8000000 in
theorem rnode_any (R : Nat) (l : ByteArray) (e : Nat) (w : World) (hl : l.size ≤ 9223372036854775806) (h : RSt w R l e) : Calls Tryz.prog 97 #[.pointer (some ⟨R, 0, none⟩)] w (NodeEnd R l e w) := by
 obtain ⟨i0, hi0, hz0, hz1, hz2⟩ := info_id
 have HTX := Lib.hid fun l e u hl h => text_any R l e u hl h
 have HNU := Lib.hid fun l e most u hl hm h => number_any R l e most u hl hm h
 have HIN := Lib.hid fun l e u hl h => integer_any R l e u hl h
 have HBY := Lib.hid fun l e u h => rbytes_any R l e 1 u (by decide) h
 have HB8 := Lib.hid fun l e u h => rbytes_any R l e 8 u (by decide) h
 have HRL : Hid (R < w.heap.size) := lt_of_block h
 have HL := Lib.hid hl
 go_enter Tryz.func97, Tryz.ntmps97
 have STv0 : Hid (St1 w R l e (w.alloc (.cells #[.string ⟨#[]⟩, .int .i64 0, .int .i64 0, .int .i64 0, .int .i64 0, .slice none 0 0, .string ⟨#[]⟩] 120)).drew) := ⟨h.below ((Below.refl w.heap.size w).alloc (Nat.le_refl _) _).drew, ((BX.refl R w).alloc _).drew, heap_alloc_new w _⟩
 clear h
 go_wp2_with fail
 refine wp_region_mid (S := fun _ => True) (Mid w R l e) (by kernel_rfl) ?_ ?_
 ·
  rintro a u ⟨N, x1, c2, n3, t4, s5, g, cp, l1, l2, l3, l4, l5, e1, e2, e3, e4, e5, rfl, st, hz, p1, b2, p3, p4, p5⟩
  have ST := Lib.hid st
  have P1 := Lib.hid p1
  have B2 := Lib.hid b2
  have P3 := Lib.hid p3
  have P4 := Lib.hid p4
  have P5 := Lib.hid p5
  clear st p1 b2 p3 p4 p5 STv0
  go_wp2_with fail
  refine (HNU.out l5 e5 300 u (by omega) (by decide) ST.out.rst).mono ?_
  rintro en u2 ⟨n6, l6, e6, rfl, hr, hb, hz6, hf6⟩
  have ST2 := Lib.hid (ST.out.call HRL.out hr hb)
  have P6 : Hid (PF (pNum 300) 0 l5 e5 n6 l6 e6) := hf6
  have hn6 : n6 ≤ 300 := by
   rcases hf6 with ⟨_, h, _⟩ | ⟨_, h, _⟩
   ·
    exact (pNum_back (strN_lt l5) h).1
   ·
    omega
  clear hr hb hf6
  go_wp2_with fail
  go_loopw [20] (fun jv wr => ∃ (ps : List ID8) (pa : Option Addr) (pc : Nat) (lj : ByteArray) (ej : Nat), ps.length ≤ n6 ∧ jv = .int .i64 (ps.length : Int) ∧ St2 w R lj ej (strOf x1, (c2 : Int), (n3 : Int), t4, (s5 : Int), (pa, pc, ps), ⟨#[]⟩) N wr ∧ wr.ownsRow w.heap.size 30 8 (.slice pa ps.length pc) ps.length (ps.flatMap idC) ∧ (∀ p ∈ ps, ∀ c ∈ idL p, c < 256) ∧ lj.size ≤ l.size ∧ IDS l6 e6 n6 ps lj ej) (fun jv _ => n6 - (intOf jv).toNat)
  case atStart => exact ⟨[], none, 0, l6, e6, Nat.zero_le _, rfl, ST2.out, World.ownsRow_nil _ _ _ _, by simp, by omega, by
   by_cases h : e6 = 0
   ·
    exact .inl ⟨h, h, by simp⟩
   ·
    exact .inr ⟨h, .inl h⟩⟩
  case round =>
   obtain ⟨ps, pa, pc, lj, ej, hpl, rfl, hst, hown, h256, hzj, hids⟩ := hrel
   have STj := Lib.hid hst
   have HOWN := Lib.hid hown
   have H256 := Lib.hid h256
   have HIDS := Lib.hid hids
   clear hst hown h256 hids ST2
   by_cases hj : ps.length < n6
   ·
    have m1 : (ps.length : Int) < (n6 : Int) := by omega
    go_wp2_with fail
    refine wp_region_mid (S := fun _ => True) (fun a u => ∃ (s22 s23 s24 s25 s26 s27 s28 s29 s30 : Value) (pa' : Option Addr) (pc' : Nat) (x : ID8) (l' : ByteArray) (e' : Nat), a = ⟨#[.pointer (some ⟨R, 0, none⟩), undef, .pointer (some ⟨w.heap.size, 0, none⟩), .pointer (some ⟨N, 0, none⟩), .pointer (some ⟨R, 0, none⟩), .string (strOf x1), .pointer (some ⟨R, 0, none⟩), .slice (some ⟨g, 0, none⟩) 1 cp, .pointer (some ⟨g, 0, none⟩), .int .u8 (c2 : Int), .int .i64 (c2 : Int), .pointer (some ⟨R, 0, none⟩), .int .i64 (n3 : Int), .pointer (some ⟨R, 0, none⟩), .int .i64 t4, .pointer (some ⟨R, 0, none⟩), .int .i64 (s5 : Int), .agg #[.string (strOf x1), .int .i64 (c2 : Int), .int .i64 (n3 : Int), .int .i64 t4, .int .i64 (s5 : Int), .slice none 0 0, .string ⟨#[]⟩], .pointer (some ⟨R, 0, none⟩), .int .i64 (n6 : Int), .int .i64 (ps.length : Int), .bool true, s22, s23, s24, s25, s26, s27, s28, s29, s30, u31, undef, undef, undef, undef], []⟩ ∧ St2 w R l' e' (strOf x1, (c2 : Int), (n3 : Int), t4, (s5 : Int), (pa', pc', ps ++ [x]), ⟨#[]⟩) N u ∧ u.ownsRow w.heap.size 30 8 (.slice pa' (ps ++ [x]).length pc') (ps ++ [x]).length ((ps ++ [x]).flatMap idC) ∧ (∀ c ∈ idL x, c < 256) ∧ l'.size ≤ lj.size ∧ BF lj ej 8 (idL x) l' e') (by kernel_rfl) ?_ ?_
    ·
     rintro a u ⟨s22, s23, s24, s25, s26, s27, s28, s29, s30, pa', pc', x, l', e', rfl, st', own', x256, hz', bf'⟩
     have STx := Lib.hid st'
     have OWx := Lib.hid own'
     have X256 := Lib.hid x256
     have HIX := Lib.hid (HIDS.out.next hj bf')
     clear st' own' x256 bf'
     (try dsimp only [Exit.then])
     rename_i HKK
     refine HKK _ _ ?_
     go_wp2_with fail
     go_roundw
     case rel => exact ⟨ps ++ [x], pa', pc', l', e', by rw [List.length_append]; simp; omega, by rw [List.length_append]; go_num, STx.out, OWx.out, fun p hp => by
      rcases List.mem_append.1 hp with h | h
      ·
       exact H256.out p h
      ·
       simp only [List.mem_singleton] at h; subst h; exact X256.out, by omega, HIX.out⟩
     case measure => simp [intOf]; omega
    ·
     have STd0 : Hid (St2 w R lj ej (strOf x1, (c2 : Int), (n3 : Int), t4, (s5 : Int), (pa, pc, ps), ⟨#[]⟩) N wr.drew) := ⟨STj.out.rst, STj.out.bx.drew, STj.out.row, STj.out.hN, STj.out.node⟩
     have HOWd0 : Hid (wr.drew.ownsRow w.heap.size 30 8 (.slice pa ps.length pc) ps.length (ps.flatMap idC)) := HOWN.out
     have HAT : Hid (∀ (B cp : Nat) (wz : World), (Instr.arrayAt 30 (.slice (some ⟨B, 0, none⟩) 8 cp)).run Tryz.prog wz = .ok (.pointer (some ⟨B, 0, none⟩)) wz) := fun B cp wz => run_arrayAt wz 30 _ 8 _ 8 cp Tryz.underlying30 (Nat.le_refl _)
     generalize wr.drew = d0 at *
     refine take_val 0 (.pointer (some ⟨N, 5, none⟩)) rfl (by kernel_rfl) (by kernel_rfl) (by kernel_rfl) (fun _ _ _ _ h => h) (by rfl) rfl (fun wz hS => by go_simp) trivial ?_
     try simp only [List.set_cons_zero, List.set_cons_succ]
     refine take_val 2 (.pointer (some ⟨R, 0, none⟩)) rfl (by kernel_rfl) (by kernel_rfl) (by kernel_rfl) (fun _ _ _ _ h => h) (by rfl) rfl (fun wz hS => by go_simp) trivial ?_
     try simp only [List.set_cons_zero, List.set_cons_succ]
     refine two_ready 1 3 (by kernel_rfl) rfl rfl (by rfl) (by rfl) (fun K hK => ?_) (fun K hK => ?_)
     ·
      skip
      have q5 := cell_of_row _ _ 5 _ _ _ STd0.out.node
      simp only [mnC, List.getElem?_toArray, List.getElem?_cons_zero, List.getElem?_cons_succ] at q5
      go_simp
      refine hK.out _ _ trivial ?_
      clear hK K
      try simp only [Act.put, List.setIfInBounds_toArray, List.set_cons_zero, List.set_cons_succ]
      clear q5
      refine one_ready 3 (by kernel_rfl) rfl (by rfl) (fun K hK => ?_)
      go_simp
      refine (HB8.out lj ej d0 STd0.out.rst).mono ?_
      rintro en d1 ⟨g8, cp8, x8l, l8, e8, -, rfl, hr, hb, hg, hgl, hrg, hx8, hxl, hz8, hf8⟩
      go_wp2_with fail
      refine hK.out _ _ trivial ?_
      clear hK K
      try simp only [Act.put, List.setIfInBounds_toArray, List.set_cons_zero, List.set_cons_succ]
      obtain ⟨⟨b0, b1, b2, b3, b4, b5, b6, b7⟩, rfl⟩ := eight hx8
      have STd1 := Lib.hid (STd0.out.call HRL.out hr hb)
      have HOWd1 := Lib.hid (hb.own HOWd0.out (own_ne HOWd0.out STd0.out.rst (by decide)))
      have HRG := Lib.hid hrg
      have HX8 := Lib.hid hxl
      have HF8 : Hid (BF lj ej 8 (idL (b0, b1, b2, b3, b4, b5, b6, b7)) l8 e8) := hf8
      have HZ8 := Lib.hid hz8
      clear hr hb hg hgl hrg hx8 hxl hz8 hf8
      refine take_val 4 (.pointer (some ⟨g8, 0, none⟩)) rfl (by kernel_rfl) (by kernel_rfl) (by kernel_rfl) (fun _ _ _ _ h => h) (by rfl) rfl (fun wz hS => by have hat := HAT.out g8 cp8; go_simp) trivial ?_
      try simp only [List.set_cons_zero, List.set_cons_succ]
      refine one_ready 5 (by kernel_rfl) rfl (by rfl) (fun K hK => ?_)
      refine wp_load_mid _ _ rfl g8 0 rfl ((idL (b0, b1, b2, b3, b4, b5, b6, b7)).map bV) _ HRG.out Tryz.underlying30 rfl (by kernel_rfl) ?_
      rw [put_eq rfl]
      simp only [idL, List.map_cons, List.map_nil, bV]
      try simp only [List.set_cons_zero, List.set_cons_succ]
      refine hK.out _ _ trivial ?_
      clear hK K
      refine one_ready 6 (by kernel_rfl) rfl (by rfl) (fun K hK => ?_)
      go_simp
      refine hK.out _ _ trivial ?_
      clear hK K
      try simp only [Act.put, List.setIfInBounds_toArray, List.set_cons_zero, List.set_cons_succ]
      have STa := Lib.hid (STd1.out.alloc (.cells #[.int .u8 (b0 : Int), .int .u8 (b1 : Int), .int .u8 (b2 : Int), .int .u8 (b3 : Int), .int .u8 (b4 : Int), .int .u8 (b5 : Int), .int .u8 (b6 : Int), .int .u8 (b7 : Int)] 30))
      have D1 := Lib.hid (cells_new_at d1 d1.heap.size rfl #[.int .u8 (b0 : Int), .int .u8 (b1 : Int), .int .u8 (b2 : Int), .int .u8 (b3 : Int), .int .u8 (b4 : Int), .int .u8 (b5 : Int), .int .u8 (b6 : Int), .int .u8 (b7 : Int)] 30 (idC (b0, b1, b2, b3, b4, b5, b6, b7)) rfl)
      have D2 : Hid (∀ u ∈ idC (b0, b1, b2, b3, b4, b5, b6, b7), u.oneCell' = true) := fun u hu => by
       simp only [idC, List.mem_map] at hu
       obtain ⟨c, _, rfl⟩ := hu
       rfl
      have D3 : Hid (ps.length + 1 ≤ maxLen) := by show _ ≤ _; unfold maxLen; omega
      have D4 : Hid ((ps.length + 1) * 8 ≤ 140737488355328) := by show _ ≤ _; omega
      have D5 : Hid (w.heap.size ≤ (d1.alloc (.cells #[.int .u8 (b0 : Int), .int .u8 (b1 : Int), .int .u8 (b2 : Int), .int .u8 (b3 : Int), .int .u8 (b4 : Int), .int .u8 (b5 : Int), .int .u8 (b6 : Int), .int .u8 (b7 : Int)] 30)).heap.size) := by show _ ≤ _; have := STd1.out.bx.1.size; simp; omega
      refine one_ready 7 (by kernel_rfl) rfl (by rfl) (fun K hK => ?_)
      refine wp_append_own _ _ _ 57 rfl w.heap.size 30 i0 (.agg (idC (0, 0, 0, 0, 0, 0, 0, 0)).toArray) 8 8 Tryz.underlying57 hi0 hz0 hz1 hz2 rfl (by decide) _ _ _ rfl (HOWd1.out.alloc _) ⟨d1.heap.size, 0, none⟩ 1 1 (idC (b0, b1, b2, b3, b4, b5, b6, b7)) rfl rfl D1.out D2.out D3.out D4.out D5.out ?_
      intro v' w' hown' hgrow _
      obtain ⟨oa', oc', rfl⟩ := own_form' hown'
      refine hK.out _ _ trivial ?_
      clear hK K
      try simp only [Act.put, List.setIfInBounds_toArray]
      try simp only [List.set_cons_zero, List.set_cons_succ]
      have HOWa := Lib.hid (HOWd1.out.alloc (.cells #[.int .u8 (b0 : Int), .int .u8 (b1 : Int), .int .u8 (b2 : Int), .int .u8 (b3 : Int), .int .u8 (b4 : Int), .int .u8 (b5 : Int), .int .u8 (b6 : Int), .int .u8 (b7 : Int)] 30))
      have STg := Lib.hid (STa.out.grown hgrow (own_ne HOWa.out STa.out.rst (by decide)) (own_ne HOWa.out STa.out.node (by decide)) (own_ne HOWa.out STa.out.row (by decide)) (fun k hk => (HOWa.out.lt k hk).1))
      have HOWg := Lib.hid hown'
      clear hown' hgrow
      refine take_val 8 (.pointer (some ⟨N, 5, none⟩)) rfl (by kernel_rfl) (by kernel_rfl) (by kernel_rfl) (fun _ _ _ _ h => h) (by rfl) rfl (fun wz hS => by go_simp) trivial ?_
      try simp only [List.set_cons_zero, List.set_cons_succ]
      have y5 := cell_of_row _ _ 5 _ _ _ STg.out.node
      simp only [mnC, List.getElem?_toArray, List.getElem?_cons_zero, List.getElem?_cons_succ] at y5
      have yz := frozen_of_row _ _ 5 _ _ STg.out.node
      refine one_ready 9 (by kernel_rfl) rfl (by rfl) (fun K hK => ?_)
      go_simp
      refine hK.out _ _ trivial ?_
      clear hK K
      try simp only [Act.put]
      refine wpAnyH_done (by kernel_rfl) ?_ _
      have HLN : (ps ++ [((b0, b1, b2, b3, b4, b5, b6, b7) : ID8)]).length = ps.length + 1 := by rw [List.length_append]; rfl
      have STf := STg.out.set5 (pa' := oa') (pc' := oc') (ps' := ps ++ [(b0, b1, b2, b3, b4, b5, b6, b7)]) HRL.out
      have HOWf := ownsRow_setCell_other HOWg.out (a := ⟨N, 5, none⟩) (own_ne HOWg.out STg.out.node (by decide)) (.slice oa' (ps.length + 1) oc')
      rw [HLN] at STf
      exact ⟨_, _, _, _, _, _, _, _, _, oa', oc', (b0, b1, b2, b3, b4, b5, b6, b7), l8, e8, rfl, STf, by rw [HLN, List.flatMap_append, List.flatMap_singleton]; exact HOWf, HX8.out, HZ8.out, HF8.out⟩
     ·
      skip
      go_simp
      refine (HB8.out lj ej d0 STd0.out.rst).mono ?_
      rintro en d1 ⟨g8, cp8, x8l, l8, e8, -, rfl, hr, hb, hg, hgl, hrg, hx8, hxl, hz8, hf8⟩
      go_wp2_with fail
      refine hK.out _ _ trivial ?_
      clear hK K
      try simp only [Act.put, List.setIfInBounds_toArray, List.set_cons_zero, List.set_cons_succ]
      obtain ⟨⟨b0, b1, b2, b3, b4, b5, b6, b7⟩, rfl⟩ := eight hx8
      have STd1 := Lib.hid (STd0.out.call HRL.out hr hb)
      have HOWd1 := Lib.hid (hb.own HOWd0.out (own_ne HOWd0.out STd0.out.rst (by decide)))
      have HRG := Lib.hid hrg
      have HX8 := Lib.hid hxl
      have HF8 : Hid (BF lj ej 8 (idL (b0, b1, b2, b3, b4, b5, b6, b7)) l8 e8) := hf8
      have HZ8 := Lib.hid hz8
      clear hr hb hg hgl hrg hx8 hxl hz8 hf8
      refine take_val 4 (.pointer (some ⟨g8, 0, none⟩)) rfl (by kernel_rfl) (by kernel_rfl) (by kernel_rfl) (fun _ _ _ _ h => h) (by rfl) rfl (fun wz hS => by have hat := HAT.out g8 cp8; go_simp) trivial ?_
      try simp only [List.set_cons_zero, List.set_cons_succ]
      refine two_ready 1 5 (by kernel_rfl) rfl rfl (by rfl) (by rfl) (fun K hK => ?_) (fun K hK => ?_)
      ·
       skip
       have q5 := cell_of_row _ _ 5 _ _ _ STd1.out.node
       simp only [mnC, List.getElem?_toArray, List.getElem?_cons_zero, List.getElem?_cons_succ] at q5
       go_simp
       refine hK.out _ _ trivial ?_
       clear hK K
       try simp only [Act.put, List.setIfInBounds_toArray, List.set_cons_zero, List.set_cons_succ]
       clear q5
       refine one_ready 5 (by kernel_rfl) rfl (by rfl) (fun K hK => ?_)
       refine wp_load_mid _ _ rfl g8 0 rfl ((idL (b0, b1, b2, b3, b4, b5, b6, b7)).map bV) _ HRG.out Tryz.underlying30 rfl (by kernel_rfl) ?_
       rw [put_eq rfl]
       simp only [idL, List.map_cons, List.map_nil, bV]
       try simp only [List.set_cons_zero, List.set_cons_succ]
       refine hK.out _ _ trivial ?_
       clear hK K
       refine one_ready 6 (by kernel_rfl) rfl (by rfl) (fun K hK => ?_)
       go_simp
       refine hK.out _ _ trivial ?_
       clear hK K
       try simp only [Act.put, List.setIfInBounds_toArray, List.set_cons_zero, List.set_cons_succ]
       have STa := Lib.hid (STd1.out.alloc (.cells #[.int .u8 (b0 : Int), .int .u8 (b1 : Int), .int .u8 (b2 : Int), .int .u8 (b3 : Int), .int .u8 (b4 : Int), .int .u8 (b5 : Int), .int .u8 (b6 : Int), .int .u8 (b7 : Int)] 30))
       have D1 := Lib.hid (cells_new_at d1 d1.heap.size rfl #[.int .u8 (b0 : Int), .int .u8 (b1 : Int), .int .u8 (b2 : Int), .int .u8 (b3 : Int), .int .u8 (b4 : Int), .int .u8 (b5 : Int), .int .u8 (b6 : Int), .int .u8 (b7 : Int)] 30 (idC (b0, b1, b2, b3, b4, b5, b6, b7)) rfl)
       have D2 : Hid (∀ u ∈ idC (b0, b1, b2, b3, b4, b5, b6, b7), u.oneCell' = true) := fun u hu => by
        simp only [idC, List.mem_map] at hu
        obtain ⟨c, _, rfl⟩ := hu
        rfl
       have D3 : Hid (ps.length + 1 ≤ maxLen) := by show _ ≤ _; unfold maxLen; omega
       have D4 : Hid ((ps.length + 1) * 8 ≤ 140737488355328) := by show _ ≤ _; omega
       have D5 : Hid (w.heap.size ≤ (d1.alloc (.cells #[.int .u8 (b0 : Int), .int .u8 (b1 : Int), .int .u8 (b2 : Int), .int .u8 (b3 : Int), .int .u8 (b4 : Int), .int .u8 (b5 : Int), .int .u8 (b6 : Int), .int .u8 (b7 : Int)] 30)).heap.size) := by show _ ≤ _; have := STd1.out.bx.1.size; simp; omega
       refine one_ready 7 (by kernel_rfl) rfl (by rfl) (fun K hK => ?_)
       refine wp_append_own _ _ _ 57 rfl w.heap.size 30 i0 (.agg (idC (0, 0, 0, 0, 0, 0, 0, 0)).toArray) 8 8 Tryz.underlying57 hi0 hz0 hz1 hz2 rfl (by decide) _ _ _ rfl (HOWd1.out.alloc _) ⟨d1.heap.size, 0, none⟩ 1 1 (idC (b0, b1, b2, b3, b4, b5, b6, b7)) rfl rfl D1.out D2.out D3.out D4.out D5.out ?_
       intro v' w' hown' hgrow _
       obtain ⟨oa', oc', rfl⟩ := own_form' hown'
       refine hK.out _ _ trivial ?_
       clear hK K
       try simp only [Act.put, List.setIfInBounds_toArray]
       try simp only [List.set_cons_zero, List.set_cons_succ]
       have HOWa := Lib.hid (HOWd1.out.alloc (.cells #[.int .u8 (b0 : Int), .int .u8 (b1 : Int), .int .u8 (b2 : Int), .int .u8 (b3 : Int), .int .u8 (b4 : Int), .int .u8 (b5 : Int), .int .u8 (b6 : Int), .int .u8 (b7 : Int)] 30))
       have STg := Lib.hid (STa.out.grown hgrow (own_ne HOWa.out STa.out.rst (by decide)) (own_ne HOWa.out STa.out.node (by decide)) (own_ne HOWa.out STa.out.row (by decide)) (fun k hk => (HOWa.out.lt k hk).1))
       have HOWg := Lib.hid hown'
       clear hown' hgrow
       refine take_val 8 (.pointer (some ⟨N, 5, none⟩)) rfl (by kernel_rfl) (by kernel_rfl) (by kernel_rfl) (fun _ _ _ _ h => h) (by rfl) rfl (fun wz hS => by go_simp) trivial ?_
       try simp only [List.set_cons_zero, List.set_cons_succ]
       have y5 := cell_of_row _ _ 5 _ _ _ STg.out.node
       simp only [mnC, List.getElem?_toArray, List.getElem?_cons_zero, List.getElem?_cons_succ] at y5
       have yz := frozen_of_row _ _ 5 _ _ STg.out.node
       refine one_ready 9 (by kernel_rfl) rfl (by rfl) (fun K hK => ?_)
       go_simp
       refine hK.out _ _ trivial ?_
       clear hK K
       try simp only [Act.put]
       refine wpAnyH_done (by kernel_rfl) ?_ _
       have HLN : (ps ++ [((b0, b1, b2, b3, b4, b5, b6, b7) : ID8)]).length = ps.length + 1 := by rw [List.length_append]; rfl
       have STf := STg.out.set5 (pa' := oa') (pc' := oc') (ps' := ps ++ [(b0, b1, b2, b3, b4, b5, b6, b7)]) HRL.out
       have HOWf := ownsRow_setCell_other HOWg.out (a := ⟨N, 5, none⟩) (own_ne HOWg.out STg.out.node (by decide)) (.slice oa' (ps.length + 1) oc')
       rw [HLN] at STf
       exact ⟨_, _, _, _, _, _, _, _, _, oa', oc', (b0, b1, b2, b3, b4, b5, b6, b7), l8, e8, rfl, STf, by rw [HLN, List.flatMap_append, List.flatMap_singleton]; exact HOWf, HX8.out, HZ8.out, HF8.out⟩
      ·
       skip
       refine wp_load_mid _ _ rfl g8 0 rfl ((idL (b0, b1, b2, b3, b4, b5, b6, b7)).map bV) _ HRG.out Tryz.underlying30 rfl (by kernel_rfl) ?_
       rw [put_eq rfl]
       simp only [idL, List.map_cons, List.map_nil, bV]
       try simp only [List.set_cons_zero, List.set_cons_succ]
       refine hK.out _ _ trivial ?_
       clear hK K
       refine two_ready 1 6 (by kernel_rfl) rfl rfl (by rfl) (by rfl) (fun K hK => ?_) (fun K hK => ?_)
       ·
        skip
        have q5 := cell_of_row _ _ 5 _ _ _ STd1.out.node
        simp only [mnC, List.getElem?_toArray, List.getElem?_cons_zero, List.getElem?_cons_succ] at q5
        go_simp
        refine hK.out _ _ trivial ?_
        clear hK K
        try simp only [Act.put, List.setIfInBounds_toArray, List.set_cons_zero, List.set_cons_succ]
        clear q5
        refine one_ready 6 (by kernel_rfl) rfl (by rfl) (fun K hK => ?_)
        go_simp
        refine hK.out _ _ trivial ?_
        clear hK K
        try simp only [Act.put, List.setIfInBounds_toArray, List.set_cons_zero, List.set_cons_succ]
        have STa := Lib.hid (STd1.out.alloc (.cells #[.int .u8 (b0 : Int), .int .u8 (b1 : Int), .int .u8 (b2 : Int), .int .u8 (b3 : Int), .int .u8 (b4 : Int), .int .u8 (b5 : Int), .int .u8 (b6 : Int), .int .u8 (b7 : Int)] 30))
        have D1 := Lib.hid (cells_new_at d1 d1.heap.size rfl #[.int .u8 (b0 : Int), .int .u8 (b1 : Int), .int .u8 (b2 : Int), .int .u8 (b3 : Int), .int .u8 (b4 : Int), .int .u8 (b5 : Int), .int .u8 (b6 : Int), .int .u8 (b7 : Int)] 30 (idC (b0, b1, b2, b3, b4, b5, b6, b7)) rfl)
        have D2 : Hid (∀ u ∈ idC (b0, b1, b2, b3, b4, b5, b6, b7), u.oneCell' = true) := fun u hu => by
         simp only [idC, List.mem_map] at hu
         obtain ⟨c, _, rfl⟩ := hu
         rfl
        have D3 : Hid (ps.length + 1 ≤ maxLen) := by show _ ≤ _; unfold maxLen; omega
        have D4 : Hid ((ps.length + 1) * 8 ≤ 140737488355328) := by show _ ≤ _; omega
        have D5 : Hid (w.heap.size ≤ (d1.alloc (.cells #[.int .u8 (b0 : Int), .int .u8 (b1 : Int), .int .u8 (b2 : Int), .int .u8 (b3 : Int), .int .u8 (b4 : Int), .int .u8 (b5 : Int), .int .u8 (b6 : Int), .int .u8 (b7 : Int)] 30)).heap.size) := by show _ ≤ _; have := STd1.out.bx.1.size; simp; omega
        refine one_ready 7 (by kernel_rfl) rfl (by rfl) (fun K hK => ?_)
        refine wp_append_own _ _ _ 57 rfl w.heap.size 30 i0 (.agg (idC (0, 0, 0, 0, 0, 0, 0, 0)).toArray) 8 8 Tryz.underlying57 hi0 hz0 hz1 hz2 rfl (by decide) _ _ _ rfl (HOWd1.out.alloc _) ⟨d1.heap.size, 0, none⟩ 1 1 (idC (b0, b1, b2, b3, b4, b5, b6, b7)) rfl rfl D1.out D2.out D3.out D4.out D5.out ?_
        intro v' w' hown' hgrow _
        obtain ⟨oa', oc', rfl⟩ := own_form' hown'
        refine hK.out _ _ trivial ?_
        clear hK K
        try simp only [Act.put, List.setIfInBounds_toArray]
        try simp only [List.set_cons_zero, List.set_cons_succ]
        have HOWa := Lib.hid (HOWd1.out.alloc (.cells #[.int .u8 (b0 : Int), .int .u8 (b1 : Int), .int .u8 (b2 : Int), .int .u8 (b3 : Int), .int .u8 (b4 : Int), .int .u8 (b5 : Int), .int .u8 (b6 : Int), .int .u8 (b7 : Int)] 30))
        have STg := Lib.hid (STa.out.grown hgrow (own_ne HOWa.out STa.out.rst (by decide)) (own_ne HOWa.out STa.out.node (by decide)) (own_ne HOWa.out STa.out.row (by decide)) (fun k hk => (HOWa.out.lt k hk).1))
        have HOWg := Lib.hid hown'
        clear hown' hgrow
        refine take_val 8 (.pointer (some ⟨N, 5, none⟩)) rfl (by kernel_rfl) (by kernel_rfl) (by kernel_rfl) (fun _ _ _ _ h => h) (by rfl) rfl (fun wz hS => by go_simp) trivial ?_
        try simp only [List.set_cons_zero, List.set_cons_succ]
        have y5 := cell_of_row _ _ 5 _ _ _ STg.out.node
        simp only [mnC, List.getElem?_toArray, List.getElem?_cons_zero, List.getElem?_cons_succ] at y5
        have yz := frozen_of_row _ _ 5 _ _ STg.out.node
        refine one_ready 9 (by kernel_rfl) rfl (by rfl) (fun K hK => ?_)
        go_simp
        refine hK.out _ _ trivial ?_
        clear hK K
        try simp only [Act.put]
        refine wpAnyH_done (by kernel_rfl) ?_ _
        have HLN : (ps ++ [((b0, b1, b2, b3, b4, b5, b6, b7) : ID8)]).length = ps.length + 1 := by rw [List.length_append]; rfl
        have STf := STg.out.set5 (pa' := oa') (pc' := oc') (ps' := ps ++ [(b0, b1, b2, b3, b4, b5, b6, b7)]) HRL.out
        have HOWf := ownsRow_setCell_other HOWg.out (a := ⟨N, 5, none⟩) (own_ne HOWg.out STg.out.node (by decide)) (.slice oa' (ps.length + 1) oc')
        rw [HLN] at STf
        exact ⟨_, _, _, _, _, _, _, _, _, oa', oc', (b0, b1, b2, b3, b4, b5, b6, b7), l8, e8, rfl, STf, by rw [HLN, List.flatMap_append, List.flatMap_singleton]; exact HOWf, HX8.out, HZ8.out, HF8.out⟩
       ·
        skip
        go_simp
        refine hK.out _ _ trivial ?_
        clear hK K
        try simp only [Act.put, List.setIfInBounds_toArray, List.set_cons_zero, List.set_cons_succ]
        have STa := Lib.hid (STd1.out.alloc (.cells #[.int .u8 (b0 : Int), .int .u8 (b1 : Int), .int .u8 (b2 : Int), .int .u8 (b3 : Int), .int .u8 (b4 : Int), .int .u8 (b5 : Int), .int .u8 (b6 : Int), .int .u8 (b7 : Int)] 30))
        refine one_ready 1 (by kernel_rfl) rfl (by rfl) (fun K hK => ?_)
        have q5 := cell_of_row _ _ 5 _ _ _ STa.out.node
        simp only [mnC, List.getElem?_toArray, List.getElem?_cons_zero, List.getElem?_cons_succ] at q5
        go_simp
        refine hK.out _ _ trivial ?_
        clear hK K
        try simp only [Act.put, List.setIfInBounds_toArray, List.set_cons_zero, List.set_cons_succ]
        clear q5
        have D1 := Lib.hid (cells_new_at d1 d1.heap.size rfl #[.int .u8 (b0 : Int), .int .u8 (b1 : Int), .int .u8 (b2 : Int), .int .u8 (b3 : Int), .int .u8 (b4 : Int), .int .u8 (b5 : Int), .int .u8 (b6 : Int), .int .u8 (b7 : Int)] 30 (idC (b0, b1, b2, b3, b4, b5, b6, b7)) rfl)
        have D2 : Hid (∀ u ∈ idC (b0, b1, b2, b3, b4, b5, b6, b7), u.oneCell' = true) := fun u hu => by
         simp only [idC, List.mem_map] at hu
         obtain ⟨c, _, rfl⟩ := hu
         rfl
        have D3 : Hid (ps.length + 1 ≤ maxLen) := by show _ ≤ _; unfold maxLen; omega
        have D4 : Hid ((ps.length + 1) * 8 ≤ 140737488355328) := by show _ ≤ _; omega
        have D5 : Hid (w.heap.size ≤ (d1.alloc (.cells #[.int .u8 (b0 : Int), .int .u8 (b1 : Int), .int .u8 (b2 : Int), .int .u8 (b3 : Int), .int .u8 (b4 : Int), .int .u8 (b5 : Int), .int .u8 (b6 : Int), .int .u8 (b7 : Int)] 30)).heap.size) := by show _ ≤ _; have := STd1.out.bx.1.size; simp; omega
        refine one_ready 7 (by kernel_rfl) rfl (by rfl) (fun K hK => ?_)
        refine wp_append_own _ _ _ 57 rfl w.heap.size 30 i0 (.agg (idC (0, 0, 0, 0, 0, 0, 0, 0)).toArray) 8 8 Tryz.underlying57 hi0 hz0 hz1 hz2 rfl (by decide) _ _ _ rfl (HOWd1.out.alloc _) ⟨d1.heap.size, 0, none⟩ 1 1 (idC (b0, b1, b2, b3, b4, b5, b6, b7)) rfl rfl D1.out D2.out D3.out D4.out D5.out ?_
        intro v' w' hown' hgrow _
        obtain ⟨oa', oc', rfl⟩ := own_form' hown'
        refine hK.out _ _ trivial ?_
        clear hK K
        try simp only [Act.put, List.setIfInBounds_toArray]
        try simp only [List.set_cons_zero, List.set_cons_succ]
        have HOWa := Lib.hid (HOWd1.out.alloc (.cells #[.int .u8 (b0 : Int), .int .u8 (b1 : Int), .int .u8 (b2 : Int), .int .u8 (b3 : Int), .int .u8 (b4 : Int), .int .u8 (b5 : Int), .int .u8 (b6 : Int), .int .u8 (b7 : Int)] 30))
        have STg := Lib.hid (STa.out.grown hgrow (own_ne HOWa.out STa.out.rst (by decide)) (own_ne HOWa.out STa.out.node (by decide)) (own_ne HOWa.out STa.out.row (by decide)) (fun k hk => (HOWa.out.lt k hk).1))
        have HOWg := Lib.hid hown'
        clear hown' hgrow
        refine take_val 8 (.pointer (some ⟨N, 5, none⟩)) rfl (by kernel_rfl) (by kernel_rfl) (by kernel_rfl) (fun _ _ _ _ h => h) (by rfl) rfl (fun wz hS => by go_simp) trivial ?_
        try simp only [List.set_cons_zero, List.set_cons_succ]
        have y5 := cell_of_row _ _ 5 _ _ _ STg.out.node
        simp only [mnC, List.getElem?_toArray, List.getElem?_cons_zero, List.getElem?_cons_succ] at y5
        have yz := frozen_of_row _ _ 5 _ _ STg.out.node
        refine one_ready 9 (by kernel_rfl) rfl (by rfl) (fun K hK => ?_)
        go_simp
        refine hK.out _ _ trivial ?_
        clear hK K
        try simp only [Act.put]
        refine wpAnyH_done (by kernel_rfl) ?_ _
        have HLN : (ps ++ [((b0, b1, b2, b3, b4, b5, b6, b7) : ID8)]).length = ps.length + 1 := by rw [List.length_append]; rfl
        have STf := STg.out.set5 (pa' := oa') (pc' := oc') (ps' := ps ++ [(b0, b1, b2, b3, b4, b5, b6, b7)]) HRL.out
        have HOWf := ownsRow_setCell_other HOWg.out (a := ⟨N, 5, none⟩) (own_ne HOWg.out STg.out.node (by decide)) (.slice oa' (ps.length + 1) oc')
        rw [HLN] at STf
        exact ⟨_, _, _, _, _, _, _, _, _, oa', oc', (b0, b1, b2, b3, b4, b5, b6, b7), l8, e8, rfl, STf, by rw [HLN, List.flatMap_append, List.flatMap_singleton]; exact HOWf, HX8.out, HZ8.out, HF8.out⟩
   ·
    have m1 : ¬ (ps.length : Int) < (n6 : Int) := by omega
    have hpn : Hid (ps.length = n6) := by show _ = _; omega
    go_wp2_with fail
    refine (HTX.out lj ej wr (by omega) STj.out.rst).mono ?_
    rintro en u8 ⟨x8, l8, e8, rfl, hr, hb, hz8, hf8⟩
    have ST8 := Lib.hid (STj.out.call HRL.out hr hb)
    have P8 : Hid (PF getT [] lj ej x8 l8 e8) := hf8
    have HOW8 := Lib.hid (hb.own HOWN.out (own_ne HOWN.out STj.out.rst (by decide)))
    have q6 := cell_of_row _ _ 6 _ _ _ ST8.out.node
    simp only [mnC, List.getElem?_toArray, List.getElem?_cons_zero, List.getElem?_cons_succ] at q6
    have z6 := frozen_of_row _ _ 6 _ _ ST8.out.node
    clear hr hb hf8
    have ST9 := Lib.hid (ST8.out.set6 (lk' := strOf x8) HRL.out)
    have HOW9 := Lib.hid (ownsRow_setCell_other HOW8.out (a := ⟨N, 6, none⟩) (own_ne HOW8.out ST8.out.node (by decide)) (.string (strOf x8)))
    have r0 := cell_of_row _ _ 0 _ _ _ ST9.out.node
    have r1 := cell_of_row _ _ 1 _ _ _ ST9.out.node
    have r2 := cell_of_row _ _ 2 _ _ _ ST9.out.node
    have r3 := cell_of_row _ _ 3 _ _ _ ST9.out.node
    have r4 := cell_of_row _ _ 4 _ _ _ ST9.out.node
    have r5 := cell_of_row _ _ 5 _ _ _ ST9.out.node
    have r6 := cell_of_row _ _ 6 _ _ _ ST9.out.node
    simp only [mnC, List.getElem?_toArray, List.getElem?_cons_zero, List.getElem?_cons_succ] at r0 r1 r2 r3 r4 r5 r6
    have HTH : Hid ((u8.setCell ⟨N, 6, none⟩ (.string (strOf x8))).there w.heap.size 0 (#[.string (strOf x1), .int .i64 (c2 : Int), .int .i64 (n3 : Int), .int .i64 t4, .int .i64 (s5 : Int), .slice pa ps.length pc, .string (strOf x8)] : Array Value).size) := (show (u8.setCell ⟨N, 6, none⟩ (.string (strOf x8))).there w.heap.size 0 7 from there_row ST9.out.row)
    have HI7 : Hid ((Tryz.prog.info? 120).map (·.size) = some (#[.string (strOf x1), .int .i64 (c2 : Int), .int .i64 (n3 : Int), .int .i64 t4, .int .i64 (s5 : Int), .slice pa ps.length pc, .string (strOf x8)] : Array Value).size) := nd_info
    have HON : Hid ((#[.string (strOf x1), .int .i64 (c2 : Int), .int .i64 (n3 : Int), .int .i64 t4, .int .i64 (s5 : Int), .slice pa ps.length pc, .string (strOf x8)] : Array Value).all (·.oneCell') = true) := nd_one (strOf x1, (c2 : Int), (n3 : Int), t4, (s5 : Int), (pa, pc, ps), strOf x8)
    go_wp2_with (with_reducible refine wpList_store_mid rfl 120 (.tmp 2) (.tmp 35) rfl w.heap.size 0 #[.string (strOf x1), .int .i64 (c2 : Int), .int .i64 (n3 : Int), .int .i64 t4, .int .i64 (s5 : Int), .slice pa ps.length pc, .string (strOf x8)] rfl rfl HTH.out HI7.out HON.out ?_)
    (try simp only [Exit.inBlock, Exit.then])
    have hfin := node_fin (pa := pa) (pc := pc) P1.out B2.out P3.out P4.out P5.out P6.out HIDS.out hpn.out P8.out
    refine bodyPost_ret (results_row (p := 2) (ty := 120) rfl _ _ w.heap.size 120 #[.string (strOf x1), .int .i64 (c2 : Int), .int .i64 (n3 : Int), .int .i64 t4, .int .i64 (s5 : Int), .slice pa ps.length pc, .string (strOf x8)] (0, 0) _ rfl (setCells_full ST9.out.row #[.string (strOf x1), .int .i64 (c2 : Int), .int .i64 (n3 : Int), .int .i64 t4, .int .i64 (s5 : Int), .slice pa ps.length pc, .string (strOf x8)] rfl) Tryz.underlying120 rfl nd_info) rfl ?_
    have hx1 : x1.length ≤ 1024 := by
     rcases P1.out with ⟨_, h, _⟩ | ⟨_, h, _⟩
     ·
      exact (getT_back h).1
     ·
      rw [h]; simp
    have hx8 : x8.length ≤ 1024 := by
     rcases P8.out with ⟨_, h, _⟩ | ⟨_, h, _⟩
     ·
      exact (getT_back h).1
     ·
      rw [h]; simp
    have ht4 : -9223372036854775808 ≤ t4 ∧ t4 ≤ 9223372036854775807 := by
     rcases P4.out with ⟨_, h, _⟩ | ⟨_, h, _⟩
     ·
      exact (pInt_back (strN_lt _) h).1
     ·
      omega
    refine ⟨(strOf x1, (c2 : Int), (n3 : Int), t4, (s5 : Int), (pa, pc, ps), strOf x8), l8, e8, rfl, (heap_setCells_other _ _ (by have := HRL.out; omega) _ _ _).trans ST9.out.rst, bx_setCells ST9.out.bx (Nat.le_refl _) _, own_setCellsB HOW9.out (own_ne HOW9.out ST9.out.row (by decide)) _, ⟨?_, ?_, ?_, H256.out⟩, ht4, by omega, hfin⟩
    ·
     show (strOf x1).size ≤ _
     rw [strOf_size]; omega
    ·
     show ps.length ≤ _
     omega
    ·
     show (strOf x8).size ≤ _
     rw [strOf_size]; omega
 ·
  generalize (w.alloc (.cells #[.string ⟨#[]⟩, .int .i64 0, .int .i64 0, .int .i64 0, .int .i64 0, .slice none 0 0, .string ⟨#[]⟩] 120)).drew = v0 at *
  refine take_val 0 (.pointer (some ⟨R, 0, none⟩)) rfl (by kernel_rfl) (by kernel_rfl) (by kernel_rfl) (fun _ _ _ _ h => h) (by rfl) rfl (fun wz hS => by go_simp) trivial ?_
  try simp only [List.set_cons_zero, List.set_cons_succ]
  refine take_val 2 (.pointer (some ⟨R, 0, none⟩)) rfl (by kernel_rfl) (by kernel_rfl) (by kernel_rfl) (fun _ _ _ _ h => h) (by rfl) rfl (fun wz hS => by go_simp) trivial ?_
  try simp only [List.set_cons_zero, List.set_cons_succ]
  refine take_val 7 (.pointer (some ⟨R, 0, none⟩)) rfl (by kernel_rfl) (by kernel_rfl) (by kernel_rfl) (fun _ _ _ _ h => h) (by rfl) rfl (fun wz hS => by go_simp) trivial ?_
  try simp only [List.set_cons_zero, List.set_cons_succ]
  refine take_val 9 (.pointer (some ⟨R, 0, none⟩)) rfl (by kernel_rfl) (by kernel_rfl) (by kernel_rfl) (fun _ _ _ _ h => h) (by rfl) rfl (fun wz hS => by go_simp) trivial ?_
  try simp only [List.set_cons_zero, List.set_cons_succ]
  refine take_val 11 (.pointer (some ⟨R, 0, none⟩)) rfl (by kernel_rfl) (by kernel_rfl) (by kernel_rfl) (fun _ _ _ _ h => h) (by rfl) rfl (fun wz hS => by go_simp) trivial ?_
  try simp only [List.set_cons_zero, List.set_cons_succ]
  refine two_ready 1 14 (by kernel_rfl) rfl rfl (by rfl) (by rfl) (fun K hK => ?_) (fun K hK => ?_)
  ·
   skip
   go_simp
   refine (HTX.out l e v0 (by omega) STv0.out.rst).mono ?_
   rintro en v1 ⟨x1, l1, e1, rfl, hr, hb, hz1, hf1⟩
   go_wp2_with fail
   skip
   refine hK.out _ _ trivial ?_
   clear hK K
   try simp only [Act.put, List.setIfInBounds_toArray, List.set_cons_zero, List.set_cons_succ]
   have STv1 := Lib.hid (STv0.out.call HRL.out hr hb)
   have HHF1 := Lib.hid hf1
   clear hr hb hf1
   refine two_ready 3 14 (by kernel_rfl) rfl rfl (by rfl) (by rfl) (fun K hK => ?_) (fun K hK => ?_)
   ·
    skip
    go_simp
    refine (HBY.out l1 e1 v1 STv1.out.rst).mono ?_
    rintro en v2 ⟨g, cp, x2, l2, e2, -, rfl, hr, hb, hg, hgl, hrg, hx2, hxl, hz2, hf2⟩
    go_wp2_with fail
    refine hK.out _ _ trivial ?_
    clear hK K
    try simp only [Act.put, List.setIfInBounds_toArray, List.set_cons_zero, List.set_cons_succ]
    have STv2 := Lib.hid (STv1.out.call HRL.out hr hb)
    have HRGv2 := Lib.hid hrg
    have HF2 := Lib.hid hf2
    have HGLv2 : Hid (g < v2.heap.size) := hgl
    have HGR : Hid (R < g) := by have := STv1.out.lt HRL.out; show _ < _; omega
    skip
    obtain ⟨c2, rfl⟩ : ∃ c2, x2 = [c2] := by
     match x2, hx2 with
     | [c2], _ => exact ⟨c2, rfl⟩
    have hc256 : c2 < 256 := hxl c2 (by simp)
    have ec2 : IntKind.i64.wrap (c2 : Int) = (c2 : Int) := wraps_i64 _ (by omega) (by omega)
    clear hr hb hg hgl hrg hx2 hxl hf2
    refine take_val 4 (.pointer (some ⟨g, 0, none⟩)) rfl (by kernel_rfl) (by kernel_rfl) (by kernel_rfl) (fun _ _ _ _ h => h) (by rfl) rfl (fun wz hS => by go_simp) trivial ?_
    try simp only [List.set_cons_zero, List.set_cons_succ]
    refine wpAnyH_strong (S2 := fun u => u.rangeAt g 0 ([c2].map bV)) (fun _ _ => trivial) _ _ _ _ ?_
    refine take_val 5 (.int .u8 (c2 : Int)) rfl (by kernel_rfl) (by kernel_rfl) (by kernel_rfl) (fun _ _ _ _ h => h) (by rfl) rfl (fun wz hS => by have hz := hS 0 _ rfl; simp only [bV] at hz; go_simp) HRGv2.out ?_
    try simp only [List.set_cons_zero, List.set_cons_succ]
    refine take_val 6 (.int .i64 (c2 : Int)) rfl (by kernel_rfl) (by kernel_rfl) (by kernel_rfl) (fun _ _ _ _ h => h) (by rfl) rfl (fun wz hS => by go_simp) HRGv2.out ?_
    try simp only [List.set_cons_zero, List.set_cons_succ]
    refine two_ready 8 14 (by kernel_rfl) rfl rfl (by rfl) (by rfl) (fun K hK => ?_) (fun K hK => ?_)
    ·
     skip
     go_simp
     refine (HNU.out l2 e2 511 v2 (by omega) (by decide) STv2.out.rst).mono ?_
     rintro en v3 ⟨n3, l3, e3, rfl, hr, hb, hz8, hf3⟩
     go_wp2_with fail
     have HRGv3 := Lib.hid (range_bx hb HGLv2.out (Nat.ne_of_gt HGR.out) HRGv2.out)
     have HGLv3 : Hid (g < v3.heap.size) := Nat.lt_of_lt_of_le HGLv2.out hb.1.size
     refine hK.out _ _ HRGv3.out ?_
     clear hK K
     try simp only [Act.put, List.setIfInBounds_toArray, List.set_cons_zero, List.set_cons_succ]
     have STv3 := Lib.hid (STv2.out.call HRL.out hr hb)
     have HHF3 := Lib.hid hf3
     clear hr hb hf3
     refine two_ready 10 14 (by kernel_rfl) rfl rfl (by rfl) (by rfl) (fun K hK => ?_) (fun K hK => ?_)
     ·
      skip
      go_simp
      refine (HIN.out l3 e3 v3 (by omega) STv3.out.rst).mono ?_
      rintro en v4 ⟨t4, l4, e4, rfl, hr, hb, hz10, hf4⟩
      go_wp2_with fail
      have HRGv4 := Lib.hid (range_bx hb HGLv3.out (Nat.ne_of_gt HGR.out) HRGv3.out)
      have HGLv4 : Hid (g < v4.heap.size) := Nat.lt_of_lt_of_le HGLv3.out hb.1.size
      refine hK.out _ _ HRGv4.out ?_
      clear hK K
      try simp only [Act.put, List.setIfInBounds_toArray, List.set_cons_zero, List.set_cons_succ]
      have STv4 := Lib.hid (STv3.out.call HRL.out hr hb)
      have HHF4 := Lib.hid hf4
      clear hr hb hf4
      refine two_ready 12 14 (by kernel_rfl) rfl rfl (by rfl) (by rfl) (fun K hK => ?_) (fun K hK => ?_)
      ·
       skip
       go_simp
       refine (HNU.out l4 e4 4096 v4 (by omega) (by decide) STv4.out.rst).mono ?_
       rintro en v5 ⟨s5, l5, e5, rfl, hr, hb, hz12, hf5⟩
       go_wp2_with fail
       have HRGv5 := Lib.hid (range_bx hb HGLv4.out (Nat.ne_of_gt HGR.out) HRGv4.out)
       have HGLv5 : Hid (g < v5.heap.size) := Nat.lt_of_lt_of_le HGLv4.out hb.1.size
       refine hK.out _ _ HRGv5.out ?_
       clear hK K
       try simp only [Act.put, List.setIfInBounds_toArray, List.set_cons_zero, List.set_cons_succ]
       have STv5 := Lib.hid (STv4.out.call HRL.out hr hb)
       have HHF5 := Lib.hid hf5
       clear hr hb hf5
       refine take_val 13 (.agg #[.string (strOf x1), .int .i64 (c2 : Int), .int .i64 (n3 : Int), .int .i64 t4, .int .i64 (s5 : Int), .slice none 0 0, .string ⟨#[]⟩]) rfl (by kernel_rfl) (by kernel_rfl) (by kernel_rfl) (fun _ _ _ _ h => h) (by rfl) rfl (fun wz hS => by go_simp) HRGv5.out ?_
       try simp only [List.set_cons_zero, List.set_cons_succ]
       refine one_ready 14 (by kernel_rfl) rfl (by rfl) (fun K hK => ?_)
       go_simp
       have HGNv5 : Hid (g ≠ v5.heap.size) := Nat.ne_of_lt HGLv5.out
       have HRGv6 := Lib.hid (range_other HRGv5.out (Below.heap_alloc v5 (.cells #[.string ⟨#[]⟩, .int .i64 0, .int .i64 0, .int .i64 0, .int .i64 0, .slice none 0 0, .string ⟨#[]⟩] 120) g HGLv5.out))
       have HGLv6 : Hid (g < (v5.alloc (.cells #[.string ⟨#[]⟩, .int .i64 0, .int .i64 0, .int .i64 0, .int .i64 0, .slice none 0 0, .string ⟨#[]⟩] 120)).heap.size) := by have := HGLv5.out; show _ < _; simp; omega
       have STv6 := Lib.hid (STv5.out.alloc)
       refine hK.out _ _ HRGv6.out ?_
       clear hK K
       try simp only [Act.put, List.setIfInBounds_toArray, List.set_cons_zero, List.set_cons_succ]
       have HNv6 : Hid (v5.heap.size = v5.heap.size) := rfl
       generalize v5.alloc (.cells #[.string ⟨#[]⟩, .int .i64 0, .int .i64 0, .int .i64 0, .int .i64 0, .slice none 0 0, .string ⟨#[]⟩] 120) = v6 at *
       refine one_ready 15 (by kernel_rfl) rfl (by rfl) (fun K hK => ?_)
       refine wp_store_mid 120 _ _ rfl v5.heap.size 0 #[.string (strOf x1), .int .i64 (c2 : Int), .int .i64 (n3 : Int), .int .i64 t4, .int .i64 (s5 : Int), .slice none 0 0, .string ⟨#[]⟩] rfl rfl STv6.out.there nd_info (nd_one (strOf x1, (c2 : Int), (n3 : Int), t4, (s5 : Int), (none, 0, []), ⟨#[]⟩)) ?_
       have STF := Lib.hid (STv6.out.store (strOf x1, (c2 : Int), (n3 : Int), t4, (s5 : Int), (none, 0, []), ⟨#[]⟩) HRL.out)
       refine hK.out _ _ (range_other HRGv6.out (STv6.out.other HGNv5.out _)) ?_
       clear hK K
       try simp only [Act.put]
       refine wpAnyH_done (by kernel_rfl) ?_ _
       exact ⟨v5.heap.size, x1, c2, n3, t4, s5, g, cp, _, _, _, _, _, _, _, _, _, _, rfl, STF.out, by omega, HHF1.out, HF2.out, HHF3.out, HHF4.out, HHF5.out⟩
      ·
       skip
       go_simp
       have HGNv4 : Hid (g ≠ v4.heap.size) := Nat.ne_of_lt HGLv4.out
       have HRGv7 := Lib.hid (range_other HRGv4.out (Below.heap_alloc v4 (.cells #[.string ⟨#[]⟩, .int .i64 0, .int .i64 0, .int .i64 0, .int .i64 0, .slice none 0 0, .string ⟨#[]⟩] 120) g HGLv4.out))
       have HGLv7 : Hid (g < (v4.alloc (.cells #[.string ⟨#[]⟩, .int .i64 0, .int .i64 0, .int .i64 0, .int .i64 0, .slice none 0 0, .string ⟨#[]⟩] 120)).heap.size) := by have := HGLv4.out; show _ < _; simp; omega
       have STv7 := Lib.hid (STv4.out.alloc)
       refine hK.out _ _ HRGv7.out ?_
       clear hK K
       try simp only [Act.put, List.setIfInBounds_toArray, List.set_cons_zero, List.set_cons_succ]
       have HNv7 : Hid (v4.heap.size = v4.heap.size) := rfl
       generalize v4.alloc (.cells #[.string ⟨#[]⟩, .int .i64 0, .int .i64 0, .int .i64 0, .int .i64 0, .slice none 0 0, .string ⟨#[]⟩] 120) = v7 at *
       refine one_ready 12 (by kernel_rfl) rfl (by rfl) (fun K hK => ?_)
       go_simp
       refine (HNU.out l4 e4 4096 v7 (by omega) (by decide) STv7.out.rst).mono ?_
       rintro en v8 ⟨s5, l8, e8, rfl, hr, hb, hz12, hf5⟩
       go_wp2_with fail
       have HRGv8 := Lib.hid (range_bx hb HGLv7.out (Nat.ne_of_gt HGR.out) HRGv7.out)
       have HGLv8 : Hid (g < v8.heap.size) := Nat.lt_of_lt_of_le HGLv7.out hb.1.size
       refine hK.out _ _ HRGv8.out ?_
       clear hK K
       try simp only [Act.put, List.setIfInBounds_toArray, List.set_cons_zero, List.set_cons_succ]
       have STv8 := Lib.hid (STv7.out.call HRL.out hr hb)
       have HHF5 := Lib.hid hf5
       clear hr hb hf5
       refine take_val 13 (.agg #[.string (strOf x1), .int .i64 (c2 : Int), .int .i64 (n3 : Int), .int .i64 t4, .int .i64 (s5 : Int), .slice none 0 0, .string ⟨#[]⟩]) rfl (by kernel_rfl) (by kernel_rfl) (by kernel_rfl) (fun _ _ _ _ h => h) (by rfl) rfl (fun wz hS => by go_simp) HRGv8.out ?_
       try simp only [List.set_cons_zero, List.set_cons_succ]
       refine one_ready 15 (by kernel_rfl) rfl (by rfl) (fun K hK => ?_)
       refine wp_store_mid 120 _ _ rfl v4.heap.size 0 #[.string (strOf x1), .int .i64 (c2 : Int), .int .i64 (n3 : Int), .int .i64 t4, .int .i64 (s5 : Int), .slice none 0 0, .string ⟨#[]⟩] rfl rfl STv8.out.there nd_info (nd_one (strOf x1, (c2 : Int), (n3 : Int), t4, (s5 : Int), (none, 0, []), ⟨#[]⟩)) ?_
       have STF := Lib.hid (STv8.out.store (strOf x1, (c2 : Int), (n3 : Int), t4, (s5 : Int), (none, 0, []), ⟨#[]⟩) HRL.out)
       refine hK.out _ _ (range_other HRGv8.out (STv8.out.other HGNv4.out _)) ?_
       clear hK K
       try simp only [Act.put]
       refine wpAnyH_done (by kernel_rfl) ?_ _
       exact ⟨v4.heap.size, x1, c2, n3, t4, s5, g, cp, _, _, _, _, _, _, _, _, _, _, rfl, STF.out, by omega, HHF1.out, HF2.out, HHF3.out, HHF4.out, HHF5.out⟩
     ·
      skip
      go_simp
      have HGNv3 : Hid (g ≠ v3.heap.size) := Nat.ne_of_lt HGLv3.out
      have HRGv9 := Lib.hid (range_other HRGv3.out (Below.heap_alloc v3 (.cells #[.string ⟨#[]⟩, .int .i64 0, .int .i64 0, .int .i64 0, .int .i64 0, .slice none 0 0, .string ⟨#[]⟩] 120) g HGLv3.out))
      have HGLv9 : Hid (g < (v3.alloc (.cells #[.string ⟨#[]⟩, .int .i64 0, .int .i64 0, .int .i64 0, .int .i64 0, .slice none 0 0, .string ⟨#[]⟩] 120)).heap.size) := by have := HGLv3.out; show _ < _; simp; omega
      have STv9 := Lib.hid (STv3.out.alloc)
      refine hK.out _ _ HRGv9.out ?_
      clear hK K
      try simp only [Act.put, List.setIfInBounds_toArray, List.set_cons_zero, List.set_cons_succ]
      have HNv9 : Hid (v3.heap.size = v3.heap.size) := rfl
      generalize v3.alloc (.cells #[.string ⟨#[]⟩, .int .i64 0, .int .i64 0, .int .i64 0, .int .i64 0, .slice none 0 0, .string ⟨#[]⟩] 120) = v9 at *
      refine one_ready 10 (by kernel_rfl) rfl (by rfl) (fun K hK => ?_)
      go_simp
      refine (HIN.out l3 e3 v9 (by omega) STv9.out.rst).mono ?_
      rintro en v10 ⟨t4, l10, e10, rfl, hr, hb, hz10, hf4⟩
      go_wp2_with fail
      have HRGv10 := Lib.hid (range_bx hb HGLv9.out (Nat.ne_of_gt HGR.out) HRGv9.out)
      have HGLv10 : Hid (g < v10.heap.size) := Nat.lt_of_lt_of_le HGLv9.out hb.1.size
      refine hK.out _ _ HRGv10.out ?_
      clear hK K
      try simp only [Act.put, List.setIfInBounds_toArray, List.set_cons_zero, List.set_cons_succ]
      have STv10 := Lib.hid (STv9.out.call HRL.out hr hb)
      have HHF4 := Lib.hid hf4
      clear hr hb hf4
      refine one_ready 12 (by kernel_rfl) rfl (by rfl) (fun K hK => ?_)
      go_simp
      refine (HNU.out l10 e10 4096 v10 (by omega) (by decide) STv10.out.rst).mono ?_
      rintro en v11 ⟨s5, l11, e11, rfl, hr, hb, hz12, hf5⟩
      go_wp2_with fail
      have HRGv11 := Lib.hid (range_bx hb HGLv10.out (Nat.ne_of_gt HGR.out) HRGv10.out)
      have HGLv11 : Hid (g < v11.heap.size) := Nat.lt_of_lt_of_le HGLv10.out hb.1.size
      refine hK.out _ _ HRGv11.out ?_
      clear hK K
      try simp only [Act.put, List.setIfInBounds_toArray, List.set_cons_zero, List.set_cons_succ]
      have STv11 := Lib.hid (STv10.out.call HRL.out hr hb)
      have HHF5 := Lib.hid hf5
      clear hr hb hf5
      refine take_val 13 (.agg #[.string (strOf x1), .int .i64 (c2 : Int), .int .i64 (n3 : Int), .int .i64 t4, .int .i64 (s5 : Int), .slice none 0 0, .string ⟨#[]⟩]) rfl (by kernel_rfl) (by kernel_rfl) (by kernel_rfl) (fun _ _ _ _ h => h) (by rfl) rfl (fun wz hS => by go_simp) HRGv11.out ?_
      try simp only [List.set_cons_zero, List.set_cons_succ]
      refine one_ready 15 (by kernel_rfl) rfl (by rfl) (fun K hK => ?_)
      refine wp_store_mid 120 _ _ rfl v3.heap.size 0 #[.string (strOf x1), .int .i64 (c2 : Int), .int .i64 (n3 : Int), .int .i64 t4, .int .i64 (s5 : Int), .slice none 0 0, .string ⟨#[]⟩] rfl rfl STv11.out.there nd_info (nd_one (strOf x1, (c2 : Int), (n3 : Int), t4, (s5 : Int), (none, 0, []), ⟨#[]⟩)) ?_
      have STF := Lib.hid (STv11.out.store (strOf x1, (c2 : Int), (n3 : Int), t4, (s5 : Int), (none, 0, []), ⟨#[]⟩) HRL.out)
      refine hK.out _ _ (range_other HRGv11.out (STv11.out.other HGNv3.out _)) ?_
      clear hK K
      try simp only [Act.put]
      refine wpAnyH_done (by kernel_rfl) ?_ _
      exact ⟨v3.heap.size, x1, c2, n3, t4, s5, g, cp, _, _, _, _, _, _, _, _, _, _, rfl, STF.out, by omega, HHF1.out, HF2.out, HHF3.out, HHF4.out, HHF5.out⟩
    ·
     skip
     go_simp
     have HGNv2 : Hid (g ≠ v2.heap.size) := Nat.ne_of_lt HGLv2.out
     have HRGv12 := Lib.hid (range_other HRGv2.out (Below.heap_alloc v2 (.cells #[.string ⟨#[]⟩, .int .i64 0, .int .i64 0, .int .i64 0, .int .i64 0, .slice none 0 0, .string ⟨#[]⟩] 120) g HGLv2.out))
     have HGLv12 : Hid (g < (v2.alloc (.cells #[.string ⟨#[]⟩, .int .i64 0, .int .i64 0, .int .i64 0, .int .i64 0, .slice none 0 0, .string ⟨#[]⟩] 120)).heap.size) := by have := HGLv2.out; show _ < _; simp; omega
     have STv12 := Lib.hid (STv2.out.alloc)
     refine hK.out _ _ HRGv12.out ?_
     clear hK K
     try simp only [Act.put, List.setIfInBounds_toArray, List.set_cons_zero, List.set_cons_succ]
     have HNv12 : Hid (v2.heap.size = v2.heap.size) := rfl
     generalize v2.alloc (.cells #[.string ⟨#[]⟩, .int .i64 0, .int .i64 0, .int .i64 0, .int .i64 0, .slice none 0 0, .string ⟨#[]⟩] 120) = v12 at *
     refine one_ready 8 (by kernel_rfl) rfl (by rfl) (fun K hK => ?_)
     go_simp
     refine (HNU.out l2 e2 511 v12 (by omega) (by decide) STv12.out.rst).mono ?_
     rintro en v13 ⟨n3, l13, e13, rfl, hr, hb, hz8, hf3⟩
     go_wp2_with fail
     have HRGv13 := Lib.hid (range_bx hb HGLv12.out (Nat.ne_of_gt HGR.out) HRGv12.out)
     have HGLv13 : Hid (g < v13.heap.size) := Nat.lt_of_lt_of_le HGLv12.out hb.1.size
     refine hK.out _ _ HRGv13.out ?_
     clear hK K
     try simp only [Act.put, List.setIfInBounds_toArray, List.set_cons_zero, List.set_cons_succ]
     have STv13 := Lib.hid (STv12.out.call HRL.out hr hb)
     have HHF3 := Lib.hid hf3
     clear hr hb hf3
     refine one_ready 10 (by kernel_rfl) rfl (by rfl) (fun K hK => ?_)
     go_simp
     refine (HIN.out l13 e13 v13 (by omega) STv13.out.rst).mono ?_
     rintro en v14 ⟨t4, l14, e14, rfl, hr, hb, hz10, hf4⟩
     go_wp2_with fail
     have HRGv14 := Lib.hid (range_bx hb HGLv13.out (Nat.ne_of_gt HGR.out) HRGv13.out)
     have HGLv14 : Hid (g < v14.heap.size) := Nat.lt_of_lt_of_le HGLv13.out hb.1.size
     refine hK.out _ _ HRGv14.out ?_
     clear hK K
     try simp only [Act.put, List.setIfInBounds_toArray, List.set_cons_zero, List.set_cons_succ]
     have STv14 := Lib.hid (STv13.out.call HRL.out hr hb)
     have HHF4 := Lib.hid hf4
     clear hr hb hf4
     refine one_ready 12 (by kernel_rfl) rfl (by rfl) (fun K hK => ?_)
     go_simp
     refine (HNU.out l14 e14 4096 v14 (by omega) (by decide) STv14.out.rst).mono ?_
     rintro en v15 ⟨s5, l15, e15, rfl, hr, hb, hz12, hf5⟩
     go_wp2_with fail
     have HRGv15 := Lib.hid (range_bx hb HGLv14.out (Nat.ne_of_gt HGR.out) HRGv14.out)
     have HGLv15 : Hid (g < v15.heap.size) := Nat.lt_of_lt_of_le HGLv14.out hb.1.size
     refine hK.out _ _ HRGv15.out ?_
     clear hK K
     try simp only [Act.put, List.setIfInBounds_toArray, List.set_cons_zero, List.set_cons_succ]
     have STv15 := Lib.hid (STv14.out.call HRL.out hr hb)
     have HHF5 := Lib.hid hf5
     clear hr hb hf5
     refine take_val 13 (.agg #[.string (strOf x1), .int .i64 (c2 : Int), .int .i64 (n3 : Int), .int .i64 t4, .int .i64 (s5 : Int), .slice none 0 0, .string ⟨#[]⟩]) rfl (by kernel_rfl) (by kernel_rfl) (by kernel_rfl) (fun _ _ _ _ h => h) (by rfl) rfl (fun wz hS => by go_simp) HRGv15.out ?_
     try simp only [List.set_cons_zero, List.set_cons_succ]
     refine one_ready 15 (by kernel_rfl) rfl (by rfl) (fun K hK => ?_)
     refine wp_store_mid 120 _ _ rfl v2.heap.size 0 #[.string (strOf x1), .int .i64 (c2 : Int), .int .i64 (n3 : Int), .int .i64 t4, .int .i64 (s5 : Int), .slice none 0 0, .string ⟨#[]⟩] rfl rfl STv15.out.there nd_info (nd_one (strOf x1, (c2 : Int), (n3 : Int), t4, (s5 : Int), (none, 0, []), ⟨#[]⟩)) ?_
     have STF := Lib.hid (STv15.out.store (strOf x1, (c2 : Int), (n3 : Int), t4, (s5 : Int), (none, 0, []), ⟨#[]⟩) HRL.out)
     refine hK.out _ _ (range_other HRGv15.out (STv15.out.other HGNv2.out _)) ?_
     clear hK K
     try simp only [Act.put]
     refine wpAnyH_done (by kernel_rfl) ?_ _
     exact ⟨v2.heap.size, x1, c2, n3, t4, s5, g, cp, _, _, _, _, _, _, _, _, _, _, rfl, STF.out, by omega, HHF1.out, HF2.out, HHF3.out, HHF4.out, HHF5.out⟩
   ·
    skip
    go_simp
    have STv16 := Lib.hid (STv1.out.alloc)
    refine hK.out _ _ trivial ?_
    clear hK K
    try simp only [Act.put, List.setIfInBounds_toArray, List.set_cons_zero, List.set_cons_succ]
    have HNv16 : Hid (v1.heap.size = v1.heap.size) := rfl
    generalize v1.alloc (.cells #[.string ⟨#[]⟩, .int .i64 0, .int .i64 0, .int .i64 0, .int .i64 0, .slice none 0 0, .string ⟨#[]⟩] 120) = v16 at *
    refine one_ready 3 (by kernel_rfl) rfl (by rfl) (fun K hK => ?_)
    go_simp
    refine (HBY.out l1 e1 v16 STv16.out.rst).mono ?_
    rintro en v17 ⟨g, cp, x2, l17, e17, -, rfl, hr, hb, hg, hgl, hrg, hx2, hxl, hz2, hf2⟩
    go_wp2_with fail
    refine hK.out _ _ trivial ?_
    clear hK K
    try simp only [Act.put, List.setIfInBounds_toArray, List.set_cons_zero, List.set_cons_succ]
    have STv17 := Lib.hid (STv16.out.call HRL.out hr hb)
    have HRGv17 := Lib.hid hrg
    have HF2 := Lib.hid hf2
    have HGLv17 : Hid (g < v17.heap.size) := hgl
    have HGR : Hid (R < g) := by have := STv16.out.lt HRL.out; show _ < _; omega
    have HGNv1 : Hid (g ≠ v1.heap.size) := by have := lt_of_block STv16.out.node; show _ ≠ _; omega
    obtain ⟨c2, rfl⟩ : ∃ c2, x2 = [c2] := by
     match x2, hx2 with
     | [c2], _ => exact ⟨c2, rfl⟩
    have hc256 : c2 < 256 := hxl c2 (by simp)
    have ec2 : IntKind.i64.wrap (c2 : Int) = (c2 : Int) := wraps_i64 _ (by omega) (by omega)
    clear hr hb hg hgl hrg hx2 hxl hf2
    refine take_val 4 (.pointer (some ⟨g, 0, none⟩)) rfl (by kernel_rfl) (by kernel_rfl) (by kernel_rfl) (fun _ _ _ _ h => h) (by rfl) rfl (fun wz hS => by go_simp) trivial ?_
    try simp only [List.set_cons_zero, List.set_cons_succ]
    refine wpAnyH_strong (S2 := fun u => u.rangeAt g 0 ([c2].map bV)) (fun _ _ => trivial) _ _ _ _ ?_
    refine take_val 5 (.int .u8 (c2 : Int)) rfl (by kernel_rfl) (by kernel_rfl) (by kernel_rfl) (fun _ _ _ _ h => h) (by rfl) rfl (fun wz hS => by have hz := hS 0 _ rfl; simp only [bV] at hz; go_simp) HRGv17.out ?_
    try simp only [List.set_cons_zero, List.set_cons_succ]
    refine take_val 6 (.int .i64 (c2 : Int)) rfl (by kernel_rfl) (by kernel_rfl) (by kernel_rfl) (fun _ _ _ _ h => h) (by rfl) rfl (fun wz hS => by go_simp) HRGv17.out ?_
    try simp only [List.set_cons_zero, List.set_cons_succ]
    refine one_ready 8 (by kernel_rfl) rfl (by rfl) (fun K hK => ?_)
    go_simp
    refine (HNU.out l17 e17 511 v17 (by omega) (by decide) STv17.out.rst).mono ?_
    rintro en v18 ⟨n3, l18, e18, rfl, hr, hb, hz8, hf3⟩
    go_wp2_with fail
    have HRGv18 := Lib.hid (range_bx hb HGLv17.out (Nat.ne_of_gt HGR.out) HRGv17.out)
    have HGLv18 : Hid (g < v18.heap.size) := Nat.lt_of_lt_of_le HGLv17.out hb.1.size
    refine hK.out _ _ HRGv18.out ?_
    clear hK K
    try simp only [Act.put, List.setIfInBounds_toArray, List.set_cons_zero, List.set_cons_succ]
    have STv18 := Lib.hid (STv17.out.call HRL.out hr hb)
    have HHF3 := Lib.hid hf3
    clear hr hb hf3
    refine one_ready 10 (by kernel_rfl) rfl (by rfl) (fun K hK => ?_)
    go_simp
    refine (HIN.out l18 e18 v18 (by omega) STv18.out.rst).mono ?_
    rintro en v19 ⟨t4, l19, e19, rfl, hr, hb, hz10, hf4⟩
    go_wp2_with fail
    have HRGv19 := Lib.hid (range_bx hb HGLv18.out (Nat.ne_of_gt HGR.out) HRGv18.out)
    have HGLv19 : Hid (g < v19.heap.size) := Nat.lt_of_lt_of_le HGLv18.out hb.1.size
    refine hK.out _ _ HRGv19.out ?_
    clear hK K
    try simp only [Act.put, List.setIfInBounds_toArray, List.set_cons_zero, List.set_cons_succ]
    have STv19 := Lib.hid (STv18.out.call HRL.out hr hb)
    have HHF4 := Lib.hid hf4
    clear hr hb hf4
    refine one_ready 12 (by kernel_rfl) rfl (by rfl) (fun K hK => ?_)
    go_simp
    refine (HNU.out l19 e19 4096 v19 (by omega) (by decide) STv19.out.rst).mono ?_
    rintro en v20 ⟨s5, l20, e20, rfl, hr, hb, hz12, hf5⟩
    go_wp2_with fail
    have HRGv20 := Lib.hid (range_bx hb HGLv19.out (Nat.ne_of_gt HGR.out) HRGv19.out)
    have HGLv20 : Hid (g < v20.heap.size) := Nat.lt_of_lt_of_le HGLv19.out hb.1.size
    refine hK.out _ _ HRGv20.out ?_
    clear hK K
    try simp only [Act.put, List.setIfInBounds_toArray, List.set_cons_zero, List.set_cons_succ]
    have STv20 := Lib.hid (STv19.out.call HRL.out hr hb)
    have HHF5 := Lib.hid hf5
    clear hr hb hf5
    refine take_val 13 (.agg #[.string (strOf x1), .int .i64 (c2 : Int), .int .i64 (n3 : Int), .int .i64 t4, .int .i64 (s5 : Int), .slice none 0 0, .string ⟨#[]⟩]) rfl (by kernel_rfl) (by kernel_rfl) (by kernel_rfl) (fun _ _ _ _ h => h) (by rfl) rfl (fun wz hS => by go_simp) HRGv20.out ?_
    try simp only [List.set_cons_zero, List.set_cons_succ]
    refine one_ready 15 (by kernel_rfl) rfl (by rfl) (fun K hK => ?_)
    refine wp_store_mid 120 _ _ rfl v1.heap.size 0 #[.string (strOf x1), .int .i64 (c2 : Int), .int .i64 (n3 : Int), .int .i64 t4, .int .i64 (s5 : Int), .slice none 0 0, .string ⟨#[]⟩] rfl rfl STv20.out.there nd_info (nd_one (strOf x1, (c2 : Int), (n3 : Int), t4, (s5 : Int), (none, 0, []), ⟨#[]⟩)) ?_
    have STF := Lib.hid (STv20.out.store (strOf x1, (c2 : Int), (n3 : Int), t4, (s5 : Int), (none, 0, []), ⟨#[]⟩) HRL.out)
    refine hK.out _ _ (range_other HRGv20.out (STv20.out.other HGNv1.out _)) ?_
    clear hK K
    try simp only [Act.put]
    refine wpAnyH_done (by kernel_rfl) ?_ _
    exact ⟨v1.heap.size, x1, c2, n3, t4, s5, g, cp, _, _, _, _, _, _, _, _, _, _, rfl, STF.out, by omega, HHF1.out, HF2.out, HHF3.out, HHF4.out, HHF5.out⟩
  ·
   skip
   go_simp
   have STv21 := Lib.hid (STv0.out.alloc)
   refine hK.out _ _ trivial ?_
   clear hK K
   try simp only [Act.put, List.setIfInBounds_toArray, List.set_cons_zero, List.set_cons_succ]
   have HNv21 : Hid (v0.heap.size = v0.heap.size) := rfl
   generalize v0.alloc (.cells #[.string ⟨#[]⟩, .int .i64 0, .int .i64 0, .int .i64 0, .int .i64 0, .slice none 0 0, .string ⟨#[]⟩] 120) = v21 at *
   refine one_ready 1 (by kernel_rfl) rfl (by rfl) (fun K hK => ?_)
   go_simp
   refine (HTX.out l e v21 (by omega) STv21.out.rst).mono ?_
   rintro en v22 ⟨x1, l22, e22, rfl, hr, hb, hz1, hf1⟩
   go_wp2_with fail
   skip
   refine hK.out _ _ trivial ?_
   clear hK K
   try simp only [Act.put, List.setIfInBounds_toArray, List.set_cons_zero, List.set_cons_succ]
   have STv22 := Lib.hid (STv21.out.call HRL.out hr hb)
   have HHF1 := Lib.hid hf1
   clear hr hb hf1
   refine one_ready 3 (by kernel_rfl) rfl (by rfl) (fun K hK => ?_)
   go_simp
   refine (HBY.out l22 e22 v22 STv22.out.rst).mono ?_
   rintro en v23 ⟨g, cp, x2, l23, e23, -, rfl, hr, hb, hg, hgl, hrg, hx2, hxl, hz2, hf2⟩
   go_wp2_with fail
   refine hK.out _ _ trivial ?_
   clear hK K
   try simp only [Act.put, List.setIfInBounds_toArray, List.set_cons_zero, List.set_cons_succ]
   have STv23 := Lib.hid (STv22.out.call HRL.out hr hb)
   have HRGv23 := Lib.hid hrg
   have HF2 := Lib.hid hf2
   have HGLv23 : Hid (g < v23.heap.size) := hgl
   have HGR : Hid (R < g) := by have := STv22.out.lt HRL.out; show _ < _; omega
   have HGNv0 : Hid (g ≠ v0.heap.size) := by have := lt_of_block STv22.out.node; show _ ≠ _; omega
   obtain ⟨c2, rfl⟩ : ∃ c2, x2 = [c2] := by
    match x2, hx2 with
    | [c2], _ => exact ⟨c2, rfl⟩
   have hc256 : c2 < 256 := hxl c2 (by simp)
   have ec2 : IntKind.i64.wrap (c2 : Int) = (c2 : Int) := wraps_i64 _ (by omega) (by omega)
   clear hr hb hg hgl hrg hx2 hxl hf2
   refine take_val 4 (.pointer (some ⟨g, 0, none⟩)) rfl (by kernel_rfl) (by kernel_rfl) (by kernel_rfl) (fun _ _ _ _ h => h) (by rfl) rfl (fun wz hS => by go_simp) trivial ?_
   try simp only [List.set_cons_zero, List.set_cons_succ]
   refine wpAnyH_strong (S2 := fun u => u.rangeAt g 0 ([c2].map bV)) (fun _ _ => trivial) _ _ _ _ ?_
   refine take_val 5 (.int .u8 (c2 : Int)) rfl (by kernel_rfl) (by kernel_rfl) (by kernel_rfl) (fun _ _ _ _ h => h) (by rfl) rfl (fun wz hS => by have hz := hS 0 _ rfl; simp only [bV] at hz; go_simp) HRGv23.out ?_
   try simp only [List.set_cons_zero, List.set_cons_succ]
   refine take_val 6 (.int .i64 (c2 : Int)) rfl (by kernel_rfl) (by kernel_rfl) (by kernel_rfl) (fun _ _ _ _ h => h) (by rfl) rfl (fun wz hS => by go_simp) HRGv23.out ?_
   try simp only [List.set_cons_zero, List.set_cons_succ]
   refine one_ready 8 (by kernel_rfl) rfl (by rfl) (fun K hK => ?_)
   go_simp
   refine (HNU.out l23 e23 511 v23 (by omega) (by decide) STv23.out.rst).mono ?_
   rintro en v24 ⟨n3, l24, e24, rfl, hr, hb, hz8, hf3⟩
   go_wp2_with fail
   have HRGv24 := Lib.hid (range_bx hb HGLv23.out (Nat.ne_of_gt HGR.out) HRGv23.out)
   have HGLv24 : Hid (g < v24.heap.size) := Nat.lt_of_lt_of_le HGLv23.out hb.1.size
   refine hK.out _ _ HRGv24.out ?_
   clear hK K
   try simp only [Act.put, List.setIfInBounds_toArray, List.set_cons_zero, List.set_cons_succ]
   have STv24 := Lib.hid (STv23.out.call HRL.out hr hb)
   have HHF3 := Lib.hid hf3
   clear hr hb hf3
   refine one_ready 10 (by kernel_rfl) rfl (by rfl) (fun K hK => ?_)
   go_simp
   refine (HIN.out l24 e24 v24 (by omega) STv24.out.rst).mono ?_
   rintro en v25 ⟨t4, l25, e25, rfl, hr, hb, hz10, hf4⟩
   go_wp2_with fail
   have HRGv25 := Lib.hid (range_bx hb HGLv24.out (Nat.ne_of_gt HGR.out) HRGv24.out)
   have HGLv25 : Hid (g < v25.heap.size) := Nat.lt_of_lt_of_le HGLv24.out hb.1.size
   refine hK.out _ _ HRGv25.out ?_
   clear hK K
   try simp only [Act.put, List.setIfInBounds_toArray, List.set_cons_zero, List.set_cons_succ]
   have STv25 := Lib.hid (STv24.out.call HRL.out hr hb)
   have HHF4 := Lib.hid hf4
   clear hr hb hf4
   refine one_ready 12 (by kernel_rfl) rfl (by rfl) (fun K hK => ?_)
   go_simp
   refine (HNU.out l25 e25 4096 v25 (by omega) (by decide) STv25.out.rst).mono ?_
   rintro en v26 ⟨s5, l26, e26, rfl, hr, hb, hz12, hf5⟩
   go_wp2_with fail
   have HRGv26 := Lib.hid (range_bx hb HGLv25.out (Nat.ne_of_gt HGR.out) HRGv25.out)
   have HGLv26 : Hid (g < v26.heap.size) := Nat.lt_of_lt_of_le HGLv25.out hb.1.size
   refine hK.out _ _ HRGv26.out ?_
   clear hK K
   try simp only [Act.put, List.setIfInBounds_toArray, List.set_cons_zero, List.set_cons_succ]
   have STv26 := Lib.hid (STv25.out.call HRL.out hr hb)
   have HHF5 := Lib.hid hf5
   clear hr hb hf5
   refine take_val 13 (.agg #[.string (strOf x1), .int .i64 (c2 : Int), .int .i64 (n3 : Int), .int .i64 t4, .int .i64 (s5 : Int), .slice none 0 0, .string ⟨#[]⟩]) rfl (by kernel_rfl) (by kernel_rfl) (by kernel_rfl) (fun _ _ _ _ h => h) (by rfl) rfl (fun wz hS => by go_simp) HRGv26.out ?_
   try simp only [List.set_cons_zero, List.set_cons_succ]
   refine one_ready 15 (by kernel_rfl) rfl (by rfl) (fun K hK => ?_)
   refine wp_store_mid 120 _ _ rfl v0.heap.size 0 #[.string (strOf x1), .int .i64 (c2 : Int), .int .i64 (n3 : Int), .int .i64 t4, .int .i64 (s5 : Int), .slice none 0 0, .string ⟨#[]⟩] rfl rfl STv26.out.there nd_info (nd_one (strOf x1, (c2 : Int), (n3 : Int), t4, (s5 : Int), (none, 0, []), ⟨#[]⟩)) ?_
   have STF := Lib.hid (STv26.out.store (strOf x1, (c2 : Int), (n3 : Int), t4, (s5 : Int), (none, 0, []), ⟨#[]⟩) HRL.out)
   refine hK.out _ _ (range_other HRGv26.out (STv26.out.other HGNv0.out _)) ?_
   clear hK K
   try simp only [Act.put]
   refine wpAnyH_done (by kernel_rfl) ?_ _
   exact ⟨v0.heap.size, x1, c2, n3, t4, s5, g, cp, _, _, _, _, _, _, _, _, _, _, rfl, STF.out, by omega, HHF1.out, HF2.out, HHF3.out, HHF4.out, HHF5.out⟩
end Go.Proofs.YtbfoonfbhebhfaaGreatDoor
