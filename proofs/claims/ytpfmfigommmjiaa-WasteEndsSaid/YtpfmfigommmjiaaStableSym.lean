/- The walk of slices' symMerge over ints. Printed by wip/gen_stable.py. -/
import Derived.Test.YtpfmfigommmjiaaStableSymR
namespace Go.Proofs.Ytpfmfigommmjiaa
open Go.RowKit Plain
set_option linter.unusedVariables false
set_option linter.unusedSimpArgs false
set_option maxRecDepth 100000 in
set_option maxHeartbeats 4000000 in
theorem sym_any (key : Nat → Int) (El : Nat → Prop) (g n cap B : Nat) (sp : List Value) : ∀ (N a m b : Nat) (A X Y C : List Nat) (w : World) (hc : ∀ (x y : Nat) (u : World), El x → El y → GX g w u → Calls Try.prog 14 #[.int .i64 (x : Int), .int .i64 (y : Int), .pointer (some ⟨B, 0, none⟩)] u fun e u' => (∃ r : Int, e = .returned (.int .i64 r) ∧ (r < 0 ↔ key x < key y)) ∧ Below u.heap.size u u') (hel : ∀ z ∈ X ++ Y, El z) (hd : DR w g (A ++ ((X ++ Y) ++ C)) sp) (hn : b + C.length = n) (hs : n ≤ 1000000) (ha : A.length = a) (hm : a + X.length = m) (hb : m + Y.length = b) (hxn : X ≠ []) (hyn : Y ≠ []) (hw : (X ++ Y).Pairwise (WPr key id)) (hx : X.Pairwise (SPr key)) (hy : Y.Pairwise (SPr key)) (hN : b - a ≤ N),
    Calls Try.prog 21 #[.slice (some ⟨g, 0, none⟩) n cap, .int .i64 (a : Int), .int .i64 (m : Int), .int .i64 (b : Int), .func (.func 14) #[] #[.pointer (some ⟨B, 0, none⟩)]] w fun e w' => e = .returned (.tuple #[]) ∧ ∃ Z, Mrg key id X Y Z ∧ DR w' g (A ++ (Z ++ C)) sp ∧ GX g w w' := by
  intro N
  induction N with
  | zero =>
    intro a m b A X Y C w hc hel hd hn hs ha hm hb hxn hyn hw hx hy hN
    have := List.length_pos_iff.2 hxn
    omega
  | succ N ih =>
    intro a m b A X Y C w hc hel hd hn hs ha hm hb hxn hyn hw hx hy hN
    have hxl := List.length_pos_iff.2 hxn
    have hyl := List.length_pos_iff.2 hyn
    by_cases hx1 : X.length = 1
    · obtain ⟨x, rfl⟩ : ∃ x, X = [x] := List.length_eq_one_iff.1 hx1
      exact sym_oneL key El g n cap a m b B A Y C x sp w hc hel hd hn hs ha hm hb hw hy
    by_cases hy1 : Y.length = 1
    · obtain ⟨y, rfl⟩ : ∃ y, Y = [y] := List.length_eq_one_iff.1 hy1
      exact sym_oneR key El g n cap a m b B A X C y sp w hc hel hd hn hs ha hm hb hx1 hw hx
    have w0 : IntKind.i64.wrap ((m : Int) - (a : Int)) = (X.length : Int) := by rw [wraps_i64 _ (by omega) (by omega)]; omega
    have w1 : IntKind.i64.wrap ((b : Int) - (m : Int)) = (Y.length : Int) := by rw [wraps_i64 _ (by omega) (by omega)]; omega
    have d0 : ((X.length : Int) == 1) = false := by simp; omega
    have d1 : ((Y.length : Int) == 1) = false := by simp; omega
    have HC := Lib.hid hc
    have HEL := Lib.hid hel
    have HA := Lib.hid ha
    have HX := Lib.hid hm
    have HY := Lib.hid hb
    have HN := Lib.hid hn
    have HW := Lib.hid hw
    have HXS := Lib.hid hx
    have HYS := Lib.hid hy
    obtain ⟨mid, hmid⟩ : ∃ mid, mid = (a + b) / 2 := ⟨_, rfl⟩
    have HEM0 : Hid (((a : Int) + (b : Int)) / 2 = (mid : Int)) := Lib.hid (by omega)
    have wab : IntKind.i64.wrap ((a : Int) + (b : Int)) = (a : Int) + (b : Int) := wraps_i64 _ (by omega) (by omega)
    obtain ⟨n2, hn2⟩ : ∃ n2, n2 = mid + m := ⟨_, rfl⟩
    have wn2 : IntKind.i64.wrap (((a : Int) + (b : Int)) / 2 + (m : Int)) = (n2 : Int) := by rw [HEM0.out, wraps_i64 _ (by omega) (by omega)]; omega
    obtain ⟨p, hp⟩ : ∃ p, p = n2 - 1 := ⟨_, rfl⟩
    have wp : IntKind.i64.wrap ((n2 : Int) - 1) = (p : Int) := by rw [wraps_i64 _ (by omega) (by omega)]; omega
    have hbn : b ≤ n := by omega
    have ham : a + 2 ≤ m := by omega
    have hmb : m + 2 ≤ b := by omega
    have hma : a < mid := by omega
    have hmb2 : mid < b := by omega
    have HLN : Hid ((A ++ ((X ++ Y) ++ C)).length = n) := Lib.hid (by simp only [List.length_append]; omega)
    obtain ⟨LL, hLL⟩ : ∃ LL, A ++ ((X ++ Y) ++ C) = LL := ⟨_, rfl⟩
    have HXC : Hid (∀ i x, X[i]? = some x → LL[a + i]? = some x) := Lib.hid fun i x h => by rw [← hLL]; exact at_X ha h
    have HYC : Hid (∀ j y, Y[j]? = some y → LL[m + j]? = some y) := Lib.hid fun j y h => by rw [← hLL]; exact at_Y ha hm h
    rw [hLL] at hd HLN
    have HD := Lib.hid hd
    have HLQ := Lib.hid hLL
    have HIH := ih
    clear hc hel hd hn ha hm hb hw hx hy hLL hxn hyn hxl hyl hx1 hy1
    by_cases c3 : mid < m
    · have m3 : ((a : Int) + (b : Int)) / 2 < (m : Int) := by omega
      obtain ⟨s0, hs0⟩ : ∃ s0, s0 = n2 - b := ⟨_, rfl⟩
      have ws : IntKind.i64.wrap ((n2 : Int) - (b : Int)) = (s0 : Int) := by rw [wraps_i64 _ (by omega) (by omega)]; omega
      obtain ⟨r0, hr0⟩ : ∃ r0, r0 = mid := ⟨_, rfl⟩
      have HR0C : Hid (r0 = m ∨ r0 = mid) := Lib.hid (.inr hr0)
      have HS0C : Hid (s0 = a ∨ s0 + b = mid + m) := Lib.hid (.inr (by omega))
      have k1 : a ≤ s0 := by omega
      have k2 : s0 ≤ r0 := by omega
      have k3 : r0 ≤ m := by omega
      have k4 : r0 ≤ mid := by omega
      have k5 : mid + m ≤ s0 + b := by omega
      have HS0 := Lib.hid hs0
      have HR0 := Lib.hid hr0
      have HN2 := Lib.hid hn2
      have HPE := Lib.hid hp
      clear hs0 hr0 hn2 hp hmid
      go_enter Try.func21, Try.ntmps21
      go_wp2_with fail
      try rw [HEM0.out]
      go_loopw [20, 21] (fun sv rv wr => ∃ s r : Nat, sv = .int .i64 (s : Int) ∧ rv = .int .i64 (r : Int) ∧ s0 ≤ s ∧ s ≤ r ∧ r ≤ r0 ∧ Hid (s = s0 ∨ GeC key X Y a mid (s - 1)) ∧ Hid (r = r0 ∨ LtC key X Y a mid r) ∧ Hid (DR wr g LL sp) ∧ Hid (GX g w wr)) (fun sv rv _ => (intOf rv).toNat - (intOf sv).toNat)
      case atStart => exact ⟨s0, r0, (by first | rfl | rw [HS0.out]), (by first | rfl | rw [HR0.out]), Nat.le_refl _, by omega, Nat.le_refl _, Lib.hid (.inl rfl), Lib.hid (.inl rfl), HD, Lib.hid (GX.refl g w)⟩
      case round =>
        obtain ⟨s, r, rfl, rfl, hs0, hsr, hr0, HLO, HHI, HDR, HGX⟩ := hrel
        by_cases hlt : s < r
        · have m1 : (s : Int) < (r : Int) := by omega
          obtain ⟨c, hmd⟩ : ∃ c, c = (s + r) / 2 := ⟨_, rfl⟩
          have em2 : ((s : Int) + (r : Int)) / 2 = (c : Int) := by omega
          have HEM := Lib.hid em2
          have hmlo : s ≤ c := by omega
          have hmhi : c < r := by omega
          have hX := HX.out
          have hY := HY.out
          obtain ⟨x, hx⟩ : ∃ x, X[c - a]? = some x := ⟨_, List.getElem?_eq_getElem (by omega)⟩
          obtain ⟨y, hy⟩ : ∃ y, Y[mid - 1 - c]? = some y := ⟨_, List.getElem?_eq_getElem (by omega)⟩
          obtain ⟨pc, hpc⟩ : ∃ pc, pc = m + (mid - 1 - c) := ⟨_, rfl⟩
          have HXX := Lib.hid hx
          have HYY := Lib.hid hy
          have HXQ : Hid (LL[c]? = some x) := Lib.hid (by have := HXC.out (c - a) x hx; rwa [show a + (c - a) = c by omega] at this)
          have HYQ : Hid (LL[pc]? = some y) := Lib.hid (by rw [hpc]; exact HYC.out _ y hy)
          have HELX : Hid (El x) := Lib.hid (HEL.out x (List.mem_append_left _ (List.mem_of_getElem? hx)))
          have HELY : Hid (El y) := Lib.hid (HEL.out y (List.mem_append_right _ (List.mem_of_getElem? hy)))
          have c0 : (0 : Int) ≤ (c : Int) := Int.natCast_nonneg _
          have c1 : (c : Int) < (n : Int) := by omega
          have e0 : (0 : Int) ≤ (pc : Int) := Int.natCast_nonneg _
          have e1 : (pc : Int) < (n : Int) := by omega
          have wsr : IntKind.i64.wrap ((s : Int) + (r : Int)) = (s : Int) + (r : Int) := wraps_i64 _ (by omega) (by omega)
          have wpc : IntKind.i64.wrap ((p : Int) - (c : Int)) = (pc : Int) := by have h1 := HPE.out; have h2 := HN2.out; rw [wraps_i64 _ (by omega) (by omega)]; omega
          clear em2 hmd hx hy hpc hX hY
          go_wp2_with fail
          rw [HEM.out]
          try go_wp2_with fail
          refine wp_region_noPanic ?_
          refine wp_region_held_drew (S := fun u => DR u g LL sp ∧ GX g w u) (by kernel_rfl) ⟨HDR.out, HGX.out.drew⟩ (fun hS0 => ?_)
          have HS0 := Lib.hid hS0
          clear hS0
          refine take_val 0 (.func (.func 14) #[] #[.pointer (some ⟨B, 0, none⟩)]) rfl (by kernel_rfl) (by kernel_rfl) (by kernel_rfl) (fun _ _ _ _ h => h) (by rfl) rfl (fun wz hS => by go_simp) HS0.out ?_
          try simp only [List.set_cons_zero, List.set_cons_succ]
          refine take_val 1 (.slice (some ⟨g, 0, none⟩) n cap) rfl (by kernel_rfl) (by kernel_rfl) (by kernel_rfl) (fun _ _ _ _ h => h) (by rfl) rfl (fun wz hS => by go_simp) HS0.out ?_
          try simp only [List.set_cons_zero, List.set_cons_succ]
          refine take_val 2 (.int .i64 (p : Int)) rfl (by kernel_rfl) (by kernel_rfl) (by kernel_rfl) (fun _ _ _ _ h => h) (by rfl) rfl (fun wz hS => by go_simp) HS0.out ?_
          try simp only [List.set_cons_zero, List.set_cons_succ]
          refine take_val 3 (.int .i64 (c : Int)) rfl (by kernel_rfl) (by kernel_rfl) (by kernel_rfl) (fun _ _ _ _ h => h) (by rfl) rfl (fun wz hS => by go_simp) HS0.out ?_
          try simp only [List.set_cons_zero, List.set_cons_succ]
          refine take_val 4 (.int .i64 (pc : Int)) rfl (by kernel_rfl) (by kernel_rfl) (by kernel_rfl) (fun _ _ _ _ h => h) (by rfl) rfl (fun wz hS => by go_simp) HS0.out ?_
          try simp only [List.set_cons_zero, List.set_cons_succ]
          refine take_val 5 (.pointer (some ⟨g, pc, none⟩)) rfl (by kernel_rfl) (by kernel_rfl) (by kernel_rfl) (fun _ _ _ _ h => h) (by rfl) rfl (fun wz hS => by go_simp) HS0.out ?_
          try simp only [List.set_cons_zero, List.set_cons_succ]
          refine take_val 6 (.int .i64 (y : Int)) rfl (by kernel_rfl) (by kernel_rfl) (by kernel_rfl) (fun _ _ _ _ h => h) (by rfl) rfl (fun wz hS => by have hzc := hS.1.cell HYQ.out; go_simp) HS0.out ?_
          try simp only [List.set_cons_zero, List.set_cons_succ]
          refine take_val 7 (.slice (some ⟨g, 0, none⟩) n cap) rfl (by kernel_rfl) (by kernel_rfl) (by kernel_rfl) (fun _ _ _ _ h => h) (by rfl) rfl (fun wz hS => by go_simp) HS0.out ?_
          try simp only [List.set_cons_zero, List.set_cons_succ]
          refine take_val 8 (.int .i64 (c : Int)) rfl (by kernel_rfl) (by kernel_rfl) (by kernel_rfl) (fun _ _ _ _ h => h) (by rfl) rfl (fun wz hS => by go_simp) HS0.out ?_
          try simp only [List.set_cons_zero, List.set_cons_succ]
          refine take_val 9 (.pointer (some ⟨g, c, none⟩)) rfl (by kernel_rfl) (by kernel_rfl) (by kernel_rfl) (fun _ _ _ _ h => h) (by rfl) rfl (fun wz hS => by go_simp) HS0.out ?_
          try simp only [List.set_cons_zero, List.set_cons_succ]
          refine take_val 10 (.int .i64 (x : Int)) rfl (by kernel_rfl) (by kernel_rfl) (by kernel_rfl) (fun _ _ _ _ h => h) (by rfl) rfl (fun wz hS => by have hzc := hS.1.cell HXQ.out; go_simp) HS0.out ?_
          try simp only [List.set_cons_zero, List.set_cons_succ]
          generalize wr.drew = v0 at *
          refine one_ready 11 (by kernel_rfl) rfl (by rfl) (fun KQ hK => ?_)
          refine wp_call_run (f := 14) (args := #[.int .i64 (y : Int), .int .i64 (x : Int), .pointer (some ⟨B, 0, none⟩)]) (by kernel_rfl) (HC.out y x v0 HELY.out HELX.out HS0.out.2) ?_
          rintro e u1 ⟨⟨rr, rfl, hr⟩, hbu⟩
          refine ⟨_, rfl, ?_⟩
          have HS1 := Lib.hid (show DR u1 g LL sp ∧ GX g w u1 from ⟨HS0.out.1.below hbu, HS0.out.2.step hbu⟩)
          clear hbu
          refine hK.out _ _ HS1.out ?_
          clear hK KQ
          try simp only [Act.put, List.setIfInBounds_toArray]
          try simp only [List.set_cons_zero, List.set_cons_succ]
          by_cases hkey : key y < key x
          · have hr0 : rr < 0 := hr.2 hkey
            have HKEY := Lib.hid hkey
            clear hr hkey
            refine take_val 12 (.bool true) rfl (by kernel_rfl) (by kernel_rfl) (by kernel_rfl) (fun _ _ _ _ h => h) (by rfl) rfl (fun wz hS => by go_simp) HS1.out ?_
            try simp only [List.set_cons_zero, List.set_cons_succ]
            refine take_val 13 (.bool false) rfl (by kernel_rfl) (by kernel_rfl) (by kernel_rfl) (fun _ _ _ _ h => h) (by rfl) rfl (fun wz hS => by go_simp) HS1.out ?_
            try simp only [List.set_cons_zero, List.set_cons_succ]
            refine wpAnyH_done (by kernel_rfl) ?_ _
            refine NoPanic.normal ?_
            have HDR2 : Hid (DR u1 g LL sp) := Lib.hid HS1.out.1
            have HGX2 : Hid (GX g w u1) := Lib.hid HS1.out.2
            clear HS0 HS1 hr0 HDR HGX
            go_wp2_with fail
            go_roundw
            case rel => exact ⟨s, c, rfl, rfl, by omega, by omega, by omega, HLO, Lib.hid (.inr ⟨x, y, HXX.out, HYY.out, HKEY.out⟩), HDR2, HGX2⟩
            case measure => simp [intOf]; omega
          · have hr0 : ¬ rr < 0 := fun h => hkey (hr.1 h)
            have HKEY := Lib.hid hkey
            clear hr hkey
            refine take_val 12 (.bool false) rfl (by kernel_rfl) (by kernel_rfl) (by kernel_rfl) (fun _ _ _ _ h => h) (by rfl) rfl (fun wz hS => by go_simp) HS1.out ?_
            try simp only [List.set_cons_zero, List.set_cons_succ]
            refine take_val 13 (.bool true) rfl (by kernel_rfl) (by kernel_rfl) (by kernel_rfl) (fun _ _ _ _ h => h) (by rfl) rfl (fun wz hS => by go_simp) HS1.out ?_
            try simp only [List.set_cons_zero, List.set_cons_succ]
            refine wpAnyH_done (by kernel_rfl) ?_ _
            refine NoPanic.normal ?_
            have HDR2 : Hid (DR u1 g LL sp) := Lib.hid HS1.out.1
            have HGX2 : Hid (GX g w u1) := Lib.hid HS1.out.2
            clear HS0 HS1 hr0 HDR HGX
            go_wp2_with fail
            go_roundw
            case rel => exact ⟨c + 1, r, by go_num, rfl, by omega, by omega, by omega, Lib.hid (.inr ⟨x, y, HXX.out, HYY.out, Int.not_lt.1 HKEY.out⟩), HHI, HDR2, HGX2⟩
            case measure => simp [intOf]; omega
        · have m1 : ¬ (s : Int) < (r : Int) := by omega
          have hsr2 : s = r := by omega
          obtain ⟨e, hee⟩ : ∃ e, e = mid + m - s := ⟨_, rfl⟩
          have hhv := halves HW.out HXS.out HYS.out (s - a) (mid - s)
          have HV1 := Lib.hid hhv.w1
          have HV2 := Lib.hid hhv.w2
          have HV3 := Lib.hid hhv.s1
          have HV4 := Lib.hid hhv.s2
          have HV5 := Lib.hid hhv.s3
          have HV6 := Lib.hid hhv.s4
          clear hhv
          have HLX : Hid ((X.take (s - a)).length = s - a) := Lib.hid (by rw [List.length_take]; have := HX.out; omega)
          have HLU : Hid ((X.drop (s - a)).length = m - s) := Lib.hid (by rw [List.length_drop]; have := HX.out; omega)
          have HLV : Hid ((Y.take (mid - s)).length = mid - s) := Lib.hid (by rw [List.length_take]; have := HY.out; omega)
          have HLY : Hid ((Y.drop (mid - s)).length = b - m - (mid - s)) := Lib.hid (by rw [List.length_drop]; have := HY.out; omega)
          have HE1 : Hid (∀ x ∈ X.take (s - a) ++ Y.take (mid - s), x ∈ X ++ Y) := Lib.hid fun x hx => by
            rcases List.mem_append.1 hx with hx | hx
            · exact List.mem_append_left _ (List.mem_of_mem_take hx)
            · exact List.mem_append_right _ (List.mem_of_mem_take hx)
          have HE2 : Hid (∀ x ∈ X.drop (s - a) ++ Y.drop (mid - s), x ∈ X ++ Y) := Lib.hid fun x hx => by
            rcases List.mem_append.1 hx with hx | hx
            · exact List.mem_append_left _ (List.mem_of_mem_drop hx)
            · exact List.mem_append_right _ (List.mem_of_mem_drop hx)
          have HLS : Hid (LL = (A ++ X.take (s - a)) ++ (X.drop (s - a) ++ (Y.take (mid - s) ++ (Y.drop (mid - s) ++ C)))) := Lib.hid (by
            rw [← HLQ.out]
            have e1 : X.take (s - a) ++ X.drop (s - a) = X := List.take_append_drop _ _
            have e2 : Y.take (mid - s) ++ Y.drop (mid - s) = Y := List.take_append_drop _ _
            rw [List.append_assoc A, ← List.append_assoc (X.take (s - a)), e1, ← List.append_assoc (Y.take (mid - s)), e2, List.append_assoc])
          have HCM : Hid (∀ Z1 Z2, Mrg key id (X.take (s - a)) (Y.take (mid - s)) Z1 → Mrg key id (X.drop (s - a)) (Y.drop (mid - s)) Z2 → Mrg key id X Y (Z1 ++ Z2)) := Lib.hid fun Z1 Z2 h1 h2 => cut_mrg (a := a) (m := m) (b := b) (by have := HX.out; omega) (by have := HY.out; omega) (by omega) (by omega) (by omega) (by omega) (by omega) (by omega) (by omega) (by omega) HW.out HXS.out HYS.out (by
            rcases HHI.out with h | h
            · rcases HR0C.out with h2 | h2
              · exact .inl (by omega)
              · exact .inr (.inl (by omega))
            · exact .inr (.inr (by rw [hsr2]; exact h))) (by
            rcases HLO.out with h | h
            · rcases HS0C.out with h2 | h2
              · exact .inl (by omega)
              · exact .inr (.inl (by omega))
            · exact .inr (.inr h)) h1 h2
          generalize X.take (s - a) = X1 at *
          generalize X.drop (s - a) = u at *
          generalize Y.take (mid - s) = v at *
          generalize Y.drop (mid - s) = Y2 at *
          clear hsr2 HLO HHI
          by_cases t0 : s < m
          · by_cases t1 : s < mid
            · by_cases t2 : a < s
              · by_cases t3 : mid + m < s + b
                · have q1 : (s : Int) < (m : Int) := by omega
                  have q2 : (m : Int) < (e : Int) := by omega
                  have q3 : (a : Int) < (s : Int) := by omega
                  have q4 : (s : Int) < (mid : Int) := by omega
                  have q5 : (mid : Int) < (e : Int) := by omega
                  have q6 : (e : Int) < (b : Int) := by omega
                  have wle : IntKind.i64.wrap ((n2 : Int) - (s : Int)) = (e : Int) := by have h2 := HN2.out; rw [wraps_i64 _ (by omega) (by omega)]; omega
                  have HEE := Lib.hid hee
                  clear hee
                  go_wp2_with fail
                  refine (rotate_any g n cap s m e (.func (.func 14) #[] #[.pointer (some ⟨B, 0, none⟩)]) (A ++ X1) u v (Y2 ++ C) sp wr (by rw [← HLS.out]; exact HDR.out) (by rw [← HLS.out]; exact HLN.out) hs (by rw [List.length_append, HA.out, HLX.out]; omega) (by have := HLU.out; omega) (by have := HLV.out; have := HEE.out; omega) (by intro h; have h1 := HLU.out; rw [h] at h1; simp only [List.length_nil] at h1; omega) (by intro h; have h1 := HLV.out; rw [h] at h1; simp only [List.length_nil] at h1; omega)).mono ?_
                  rintro en w5 ⟨rfl, hd5, hg5⟩
                  have HDM : Hid (DR w5 g (A ++ ((X1 ++ v) ++ ((u ++ Y2) ++ C))) sp) := Lib.hid (by simpa using hd5)
                  have HG5 := Lib.hid (HGX.out.trans hg5)
                  clear hd5 hg5
                  go_wp2_with fail
                  refine (ih a s mid A X1 v ((u ++ Y2) ++ C) w5 (fun x y u hx hy hu => HC.out x y u hx hy (HG5.out.trans hu)) (fun x hx => HEL.out x (HE1.out x hx)) HDM.out (by have h1 := HLU.out; have h2 := HLY.out; have h3 := HN.out; have h4 := HEE.out; simp only [List.length_append]; omega) hs HA.out (by have := HLX.out; omega) (by have := HLV.out; omega) (by intro h; have h1 := HLX.out; rw [h] at h1; simp only [List.length_nil] at h1; omega) (by intro h; have h1 := HLV.out; rw [h] at h1; simp only [List.length_nil] at h1; omega) HV1.out HV3.out HV4.out (by omega)).mono ?_
                  rintro en w6 ⟨rfl, Z1, hmg1, hd6, hg6⟩
                  have HG6 := Lib.hid (HG5.out.trans hg6)
                  have HZ1 := Lib.hid hmg1
                  have HD6 := Lib.hid hd6
                  clear hmg1 hd6 hg6
                  go_wp2_with fail
                  have HLZ : Hid ((A ++ Z1).length = mid) := Lib.hid (by have h1 := HZ1.out.perm.length_eq; have h2 := HLX.out; have h3 := HLV.out; have h4 := HA.out; simp only [List.length_append] at h1 ⊢; omega)
                  refine (ih mid e b (A ++ Z1) u Y2 C w6 (fun x y u hx hy hu => HC.out x y u hx hy (HG6.out.trans hu)) (fun x hx => HEL.out x (HE2.out x hx)) (by rw [List.append_assoc]; exact HD6.out) HN.out hs HLZ.out (by have := HLU.out; have := HEE.out; omega) (by have := HLY.out; have := HEE.out; omega) (by intro h; have h1 := HLU.out; rw [h] at h1; simp only [List.length_nil] at h1; omega) (by intro h; have h2 := HEE.out; have h1 := HLY.out; rw [h] at h1; simp only [List.length_nil] at h1; omega) HV2.out HV5.out HV6.out (by omega)).mono ?_
                  rintro en w7 ⟨rfl, Z2, hmg2, hd7, hg7⟩
                  have HG7 := Lib.hid (HG6.out.trans hg7)
                  have HZ2 := Lib.hid hmg2
                  have HD7 : Hid (DR w7 g (A ++ ((Z1 ++ Z2) ++ C)) sp) := Lib.hid (by rw [List.append_assoc] at hd7; rw [List.append_assoc]; exact hd7)
                  clear hmg2 hd7 hg7
                  go_wp2_with fail
                  go_end0
                  exact ⟨rfl, _, HCM.out _ _ HZ1.out HZ2.out, HD7.out, HG7.out⟩
                · have q1 : (s : Int) < (m : Int) := by omega
                  have q2 : (m : Int) < (e : Int) := by omega
                  have q3 : (a : Int) < (s : Int) := by omega
                  have q4 : (s : Int) < (mid : Int) := by omega
                  have q5 : (mid : Int) < (e : Int) := by omega
                  have q6 : ¬ (e : Int) < (b : Int) := by omega
                  have wle : IntKind.i64.wrap ((n2 : Int) - (s : Int)) = (e : Int) := by have h2 := HN2.out; rw [wraps_i64 _ (by omega) (by omega)]; omega
                  have HEE := Lib.hid hee
                  clear hee
                  go_wp2_with fail
                  refine (rotate_any g n cap s m e (.func (.func 14) #[] #[.pointer (some ⟨B, 0, none⟩)]) (A ++ X1) u v (Y2 ++ C) sp wr (by rw [← HLS.out]; exact HDR.out) (by rw [← HLS.out]; exact HLN.out) hs (by rw [List.length_append, HA.out, HLX.out]; omega) (by have := HLU.out; omega) (by have := HLV.out; have := HEE.out; omega) (by intro h; have h1 := HLU.out; rw [h] at h1; simp only [List.length_nil] at h1; omega) (by intro h; have h1 := HLV.out; rw [h] at h1; simp only [List.length_nil] at h1; omega)).mono ?_
                  rintro en w5 ⟨rfl, hd5, hg5⟩
                  have HDM : Hid (DR w5 g (A ++ ((X1 ++ v) ++ ((u ++ Y2) ++ C))) sp) := Lib.hid (by simpa using hd5)
                  have HG5 := Lib.hid (HGX.out.trans hg5)
                  clear hd5 hg5
                  go_wp2_with fail
                  refine (ih a s mid A X1 v ((u ++ Y2) ++ C) w5 (fun x y u hx hy hu => HC.out x y u hx hy (HG5.out.trans hu)) (fun x hx => HEL.out x (HE1.out x hx)) HDM.out (by have h1 := HLU.out; have h2 := HLY.out; have h3 := HN.out; have h4 := HEE.out; simp only [List.length_append]; omega) hs HA.out (by have := HLX.out; omega) (by have := HLV.out; omega) (by intro h; have h1 := HLX.out; rw [h] at h1; simp only [List.length_nil] at h1; omega) (by intro h; have h1 := HLV.out; rw [h] at h1; simp only [List.length_nil] at h1; omega) HV1.out HV3.out HV4.out (by omega)).mono ?_
                  rintro en w6 ⟨rfl, Z1, hmg1, hd6, hg6⟩
                  have HG6 := Lib.hid (HG5.out.trans hg6)
                  have HZ1 := Lib.hid hmg1
                  have HD6 := Lib.hid hd6
                  clear hmg1 hd6 hg6
                  go_wp2_with fail
                  have HLZ : Hid ((A ++ Z1).length = mid) := Lib.hid (by have h1 := HZ1.out.perm.length_eq; have h2 := HLX.out; have h3 := HLV.out; have h4 := HA.out; simp only [List.length_append] at h1 ⊢; omega)
                  have HZ2 : Hid (Mrg key id u Y2 (u ++ Y2)) := Lib.hid (mrg_empty HV2.out HV5.out HV6.out (.inr (List.eq_nil_of_length_eq_zero (by have := HLY.out; have := HEE.out; omega))))
                  have HD7 : Hid (DR w6 g (A ++ ((Z1 ++ (u ++ Y2)) ++ C)) sp) := Lib.hid (by have := HD6.out; rw [List.append_assoc Z1]; exact this)
                  go_end0
                  exact ⟨rfl, _, HCM.out _ _ HZ1.out HZ2.out, HD7.out, HG6.out⟩
              · by_cases t3 : mid + m < s + b
                · have q1 : (s : Int) < (m : Int) := by omega
                  have q2 : (m : Int) < (e : Int) := by omega
                  have q3 : ¬ (a : Int) < (s : Int) := by omega
                  have q4 : (s : Int) < (mid : Int) := by omega
                  have q5 : (mid : Int) < (e : Int) := by omega
                  have q6 : (e : Int) < (b : Int) := by omega
                  have wle : IntKind.i64.wrap ((n2 : Int) - (s : Int)) = (e : Int) := by have h2 := HN2.out; rw [wraps_i64 _ (by omega) (by omega)]; omega
                  have HEE := Lib.hid hee
                  clear hee
                  go_wp2_with fail
                  refine (rotate_any g n cap s m e (.func (.func 14) #[] #[.pointer (some ⟨B, 0, none⟩)]) (A ++ X1) u v (Y2 ++ C) sp wr (by rw [← HLS.out]; exact HDR.out) (by rw [← HLS.out]; exact HLN.out) hs (by rw [List.length_append, HA.out, HLX.out]; omega) (by have := HLU.out; omega) (by have := HLV.out; have := HEE.out; omega) (by intro h; have h1 := HLU.out; rw [h] at h1; simp only [List.length_nil] at h1; omega) (by intro h; have h1 := HLV.out; rw [h] at h1; simp only [List.length_nil] at h1; omega)).mono ?_
                  rintro en w5 ⟨rfl, hd5, hg5⟩
                  have HDM : Hid (DR w5 g (A ++ ((X1 ++ v) ++ ((u ++ Y2) ++ C))) sp) := Lib.hid (by simpa using hd5)
                  have HG5 := Lib.hid (HGX.out.trans hg5)
                  clear hd5 hg5
                  go_wp2_with fail
                  have HZ1 : Hid (Mrg key id X1 v (X1 ++ v)) := Lib.hid (mrg_empty HV1.out HV3.out HV4.out (.inl (List.eq_nil_of_length_eq_zero (by have := HLX.out; omega))))
                  have HLZ : Hid ((A ++ (X1 ++ v)).length = mid) := Lib.hid (by have h1 := HZ1.out.perm.length_eq; have h2 := HLX.out; have h3 := HLV.out; have h4 := HA.out; simp only [List.length_append] at h1 ⊢; omega)
                  refine (ih mid e b (A ++ (X1 ++ v)) u Y2 C w5 (fun x y u hx hy hu => HC.out x y u hx hy (HG5.out.trans hu)) (fun x hx => HEL.out x (HE2.out x hx)) (by rw [List.append_assoc]; exact HDM.out) HN.out hs HLZ.out (by have := HLU.out; have := HEE.out; omega) (by have := HLY.out; have := HEE.out; omega) (by intro h; have h1 := HLU.out; rw [h] at h1; simp only [List.length_nil] at h1; omega) (by intro h; have h2 := HEE.out; have h1 := HLY.out; rw [h] at h1; simp only [List.length_nil] at h1; omega) HV2.out HV5.out HV6.out (by omega)).mono ?_
                  rintro en w7 ⟨rfl, Z2, hmg2, hd7, hg7⟩
                  have HG7 := Lib.hid (HG5.out.trans hg7)
                  have HZ2 := Lib.hid hmg2
                  have HD7 : Hid (DR w7 g (A ++ (((X1 ++ v) ++ Z2) ++ C)) sp) := Lib.hid (by rw [List.append_assoc] at hd7; rw [List.append_assoc]; exact hd7)
                  clear hmg2 hd7 hg7
                  go_wp2_with fail
                  go_end0
                  exact ⟨rfl, _, HCM.out _ _ HZ1.out HZ2.out, HD7.out, HG7.out⟩
                · have q1 : (s : Int) < (m : Int) := by omega
                  have q2 : (m : Int) < (e : Int) := by omega
                  have q3 : ¬ (a : Int) < (s : Int) := by omega
                  have q4 : (s : Int) < (mid : Int) := by omega
                  have q5 : (mid : Int) < (e : Int) := by omega
                  have q6 : ¬ (e : Int) < (b : Int) := by omega
                  have wle : IntKind.i64.wrap ((n2 : Int) - (s : Int)) = (e : Int) := by have h2 := HN2.out; rw [wraps_i64 _ (by omega) (by omega)]; omega
                  have HEE := Lib.hid hee
                  clear hee
                  go_wp2_with fail
                  refine (rotate_any g n cap s m e (.func (.func 14) #[] #[.pointer (some ⟨B, 0, none⟩)]) (A ++ X1) u v (Y2 ++ C) sp wr (by rw [← HLS.out]; exact HDR.out) (by rw [← HLS.out]; exact HLN.out) hs (by rw [List.length_append, HA.out, HLX.out]; omega) (by have := HLU.out; omega) (by have := HLV.out; have := HEE.out; omega) (by intro h; have h1 := HLU.out; rw [h] at h1; simp only [List.length_nil] at h1; omega) (by intro h; have h1 := HLV.out; rw [h] at h1; simp only [List.length_nil] at h1; omega)).mono ?_
                  rintro en w5 ⟨rfl, hd5, hg5⟩
                  have HDM : Hid (DR w5 g (A ++ ((X1 ++ v) ++ ((u ++ Y2) ++ C))) sp) := Lib.hid (by simpa using hd5)
                  have HG5 := Lib.hid (HGX.out.trans hg5)
                  clear hd5 hg5
                  go_wp2_with fail
                  have HZ1 : Hid (Mrg key id X1 v (X1 ++ v)) := Lib.hid (mrg_empty HV1.out HV3.out HV4.out (.inl (List.eq_nil_of_length_eq_zero (by have := HLX.out; omega))))
                  have HLZ : Hid ((A ++ (X1 ++ v)).length = mid) := Lib.hid (by have h1 := HZ1.out.perm.length_eq; have h2 := HLX.out; have h3 := HLV.out; have h4 := HA.out; simp only [List.length_append] at h1 ⊢; omega)
                  have HZ2 : Hid (Mrg key id u Y2 (u ++ Y2)) := Lib.hid (mrg_empty HV2.out HV5.out HV6.out (.inr (List.eq_nil_of_length_eq_zero (by have := HLY.out; have := HEE.out; omega))))
                  have HD7 : Hid (DR w5 g (A ++ (((X1 ++ v) ++ (u ++ Y2)) ++ C)) sp) := Lib.hid (by have := HDM.out; rw [List.append_assoc (X1 ++ v)]; exact this)
                  go_end0
                  exact ⟨rfl, _, HCM.out _ _ HZ1.out HZ2.out, HD7.out, HG5.out⟩
            · by_cases t2 : a < s
              · by_cases t3 : mid + m < s + b
                · have q1 : (s : Int) < (m : Int) := by omega
                  have q2 : ¬ (m : Int) < (e : Int) := by omega
                  have q3 : (a : Int) < (s : Int) := by omega
                  have q4 : ¬ (s : Int) < (mid : Int) := by omega
                  have q5 : (mid : Int) < (e : Int) := by omega
                  have q6 : (e : Int) < (b : Int) := by omega
                  have wle : IntKind.i64.wrap ((n2 : Int) - (s : Int)) = (e : Int) := by have h2 := HN2.out; rw [wraps_i64 _ (by omega) (by omega)]; omega
                  have HEE := Lib.hid hee
                  have HDM : Hid (DR wr g (A ++ ((X1 ++ v) ++ ((u ++ Y2) ++ C))) sp) := Lib.hid (by
                    have hd0 := HDR.out
                    rw [HLS.out] at hd0
                    have he : v = [] := List.eq_nil_of_length_eq_zero (by have := HLV.out; omega)
                    rw [he] at hd0 ⊢
                    simpa using hd0)
                  clear hee
                  go_wp2_with fail
                  have HZ1 : Hid (Mrg key id X1 v (X1 ++ v)) := Lib.hid (mrg_empty HV1.out HV3.out HV4.out (.inr (List.eq_nil_of_length_eq_zero (by have := HLV.out; omega))))
                  have HLZ : Hid ((A ++ (X1 ++ v)).length = mid) := Lib.hid (by have h1 := HZ1.out.perm.length_eq; have h2 := HLX.out; have h3 := HLV.out; have h4 := HA.out; simp only [List.length_append] at h1 ⊢; omega)
                  refine (ih mid e b (A ++ (X1 ++ v)) u Y2 C wr (fun x y u hx hy hu => HC.out x y u hx hy (HGX.out.trans hu)) (fun x hx => HEL.out x (HE2.out x hx)) (by rw [List.append_assoc]; exact HDM.out) HN.out hs HLZ.out (by have := HLU.out; have := HEE.out; omega) (by have := HLY.out; have := HEE.out; omega) (by intro h; have h1 := HLU.out; rw [h] at h1; simp only [List.length_nil] at h1; omega) (by intro h; have h2 := HEE.out; have h1 := HLY.out; rw [h] at h1; simp only [List.length_nil] at h1; omega) HV2.out HV5.out HV6.out (by omega)).mono ?_
                  rintro en w7 ⟨rfl, Z2, hmg2, hd7, hg7⟩
                  have HG7 := Lib.hid (HGX.out.trans hg7)
                  have HZ2 := Lib.hid hmg2
                  have HD7 : Hid (DR w7 g (A ++ (((X1 ++ v) ++ Z2) ++ C)) sp) := Lib.hid (by rw [List.append_assoc] at hd7; rw [List.append_assoc]; exact hd7)
                  clear hmg2 hd7 hg7
                  go_wp2_with fail
                  go_end0
                  exact ⟨rfl, _, HCM.out _ _ HZ1.out HZ2.out, HD7.out, HG7.out⟩
                · exfalso; omega
              · by_cases t3 : mid + m < s + b
                · exfalso; omega
                · exfalso; omega
          · by_cases t1 : s < mid
            · by_cases t2 : a < s
              · by_cases t3 : mid + m < s + b
                · exfalso; omega
                · exfalso; omega
              · by_cases t3 : mid + m < s + b
                · exfalso; omega
                · exfalso; omega
            · by_cases t2 : a < s
              · by_cases t3 : mid + m < s + b
                · have q1 : ¬ (s : Int) < (m : Int) := by omega
                  have q2 : ¬ (m : Int) < (e : Int) := by omega
                  have q3 : (a : Int) < (s : Int) := by omega
                  have q4 : ¬ (s : Int) < (mid : Int) := by omega
                  have q5 : ¬ (mid : Int) < (e : Int) := by omega
                  have q6 : (e : Int) < (b : Int) := by omega
                  have wle : IntKind.i64.wrap ((n2 : Int) - (s : Int)) = (e : Int) := by have h2 := HN2.out; rw [wraps_i64 _ (by omega) (by omega)]; omega
                  have HEE := Lib.hid hee
                  have HDM : Hid (DR wr g (A ++ ((X1 ++ v) ++ ((u ++ Y2) ++ C))) sp) := Lib.hid (by
                    have hd0 := HDR.out
                    rw [HLS.out] at hd0
                    have he : u = [] := List.eq_nil_of_length_eq_zero (by have := HLU.out; omega)
                    rw [he] at hd0 ⊢
                    simpa using hd0)
                  clear hee
                  go_wp2_with fail
                  have HZ1 : Hid (Mrg key id X1 v (X1 ++ v)) := Lib.hid (mrg_empty HV1.out HV3.out HV4.out (.inr (List.eq_nil_of_length_eq_zero (by have := HLV.out; omega))))
                  have HLZ : Hid ((A ++ (X1 ++ v)).length = mid) := Lib.hid (by have h1 := HZ1.out.perm.length_eq; have h2 := HLX.out; have h3 := HLV.out; have h4 := HA.out; simp only [List.length_append] at h1 ⊢; omega)
                  have HZ2 : Hid (Mrg key id u Y2 (u ++ Y2)) := Lib.hid (mrg_empty HV2.out HV5.out HV6.out (.inl (List.eq_nil_of_length_eq_zero (by have := HLU.out; omega))))
                  have HD7 : Hid (DR wr g (A ++ (((X1 ++ v) ++ (u ++ Y2)) ++ C)) sp) := Lib.hid (by have := HDM.out; rw [List.append_assoc (X1 ++ v)]; exact this)
                  go_end0
                  exact ⟨rfl, _, HCM.out _ _ HZ1.out HZ2.out, HD7.out, HGX.out⟩
                · exfalso; omega
              · by_cases t3 : mid + m < s + b
                · exfalso; omega
                · exfalso; omega
    · have m3 : ¬ ((a : Int) + (b : Int)) / 2 < (m : Int) := by omega
      obtain ⟨s0, hs0⟩ : ∃ s0, s0 = a := ⟨_, rfl⟩
      obtain ⟨r0, hr0⟩ : ∃ r0, r0 = m := ⟨_, rfl⟩
      have HR0C : Hid (r0 = m ∨ r0 = mid) := Lib.hid (.inl hr0)
      have HS0C : Hid (s0 = a ∨ s0 + b = mid + m) := Lib.hid (.inl hs0)
      have k1 : a ≤ s0 := by omega
      have k2 : s0 ≤ r0 := by omega
      have k3 : r0 ≤ m := by omega
      have k4 : r0 ≤ mid := by omega
      have k5 : mid + m ≤ s0 + b := by omega
      have HS0 := Lib.hid hs0
      have HR0 := Lib.hid hr0
      have HN2 := Lib.hid hn2
      have HPE := Lib.hid hp
      clear hs0 hr0 hn2 hp hmid
      go_enter Try.func21, Try.ntmps21
      go_wp2_with fail
      try rw [HEM0.out]
      go_loopw [20, 21] (fun sv rv wr => ∃ s r : Nat, sv = .int .i64 (s : Int) ∧ rv = .int .i64 (r : Int) ∧ s0 ≤ s ∧ s ≤ r ∧ r ≤ r0 ∧ Hid (s = s0 ∨ GeC key X Y a mid (s - 1)) ∧ Hid (r = r0 ∨ LtC key X Y a mid r) ∧ Hid (DR wr g LL sp) ∧ Hid (GX g w wr)) (fun sv rv _ => (intOf rv).toNat - (intOf sv).toNat)
      case atStart => exact ⟨s0, r0, (by first | rfl | rw [HS0.out]), (by first | rfl | rw [HR0.out]), Nat.le_refl _, by omega, Nat.le_refl _, Lib.hid (.inl rfl), Lib.hid (.inl rfl), HD, Lib.hid (GX.refl g w)⟩
      case round =>
        obtain ⟨s, r, rfl, rfl, hs0, hsr, hr0, HLO, HHI, HDR, HGX⟩ := hrel
        by_cases hlt : s < r
        · have m1 : (s : Int) < (r : Int) := by omega
          obtain ⟨c, hmd⟩ : ∃ c, c = (s + r) / 2 := ⟨_, rfl⟩
          have em2 : ((s : Int) + (r : Int)) / 2 = (c : Int) := by omega
          have HEM := Lib.hid em2
          have hmlo : s ≤ c := by omega
          have hmhi : c < r := by omega
          have hX := HX.out
          have hY := HY.out
          obtain ⟨x, hx⟩ : ∃ x, X[c - a]? = some x := ⟨_, List.getElem?_eq_getElem (by omega)⟩
          obtain ⟨y, hy⟩ : ∃ y, Y[mid - 1 - c]? = some y := ⟨_, List.getElem?_eq_getElem (by omega)⟩
          obtain ⟨pc, hpc⟩ : ∃ pc, pc = m + (mid - 1 - c) := ⟨_, rfl⟩
          have HXX := Lib.hid hx
          have HYY := Lib.hid hy
          have HXQ : Hid (LL[c]? = some x) := Lib.hid (by have := HXC.out (c - a) x hx; rwa [show a + (c - a) = c by omega] at this)
          have HYQ : Hid (LL[pc]? = some y) := Lib.hid (by rw [hpc]; exact HYC.out _ y hy)
          have HELX : Hid (El x) := Lib.hid (HEL.out x (List.mem_append_left _ (List.mem_of_getElem? hx)))
          have HELY : Hid (El y) := Lib.hid (HEL.out y (List.mem_append_right _ (List.mem_of_getElem? hy)))
          have c0 : (0 : Int) ≤ (c : Int) := Int.natCast_nonneg _
          have c1 : (c : Int) < (n : Int) := by omega
          have e0 : (0 : Int) ≤ (pc : Int) := Int.natCast_nonneg _
          have e1 : (pc : Int) < (n : Int) := by omega
          have wsr : IntKind.i64.wrap ((s : Int) + (r : Int)) = (s : Int) + (r : Int) := wraps_i64 _ (by omega) (by omega)
          have wpc : IntKind.i64.wrap ((p : Int) - (c : Int)) = (pc : Int) := by have h1 := HPE.out; have h2 := HN2.out; rw [wraps_i64 _ (by omega) (by omega)]; omega
          clear em2 hmd hx hy hpc hX hY
          go_wp2_with fail
          rw [HEM.out]
          try go_wp2_with fail
          refine wp_region_noPanic ?_
          refine wp_region_held_drew (S := fun u => DR u g LL sp ∧ GX g w u) (by kernel_rfl) ⟨HDR.out, HGX.out.drew⟩ (fun hS0 => ?_)
          have HS0 := Lib.hid hS0
          clear hS0
          refine take_val 0 (.func (.func 14) #[] #[.pointer (some ⟨B, 0, none⟩)]) rfl (by kernel_rfl) (by kernel_rfl) (by kernel_rfl) (fun _ _ _ _ h => h) (by rfl) rfl (fun wz hS => by go_simp) HS0.out ?_
          try simp only [List.set_cons_zero, List.set_cons_succ]
          refine take_val 1 (.slice (some ⟨g, 0, none⟩) n cap) rfl (by kernel_rfl) (by kernel_rfl) (by kernel_rfl) (fun _ _ _ _ h => h) (by rfl) rfl (fun wz hS => by go_simp) HS0.out ?_
          try simp only [List.set_cons_zero, List.set_cons_succ]
          refine take_val 2 (.int .i64 (p : Int)) rfl (by kernel_rfl) (by kernel_rfl) (by kernel_rfl) (fun _ _ _ _ h => h) (by rfl) rfl (fun wz hS => by go_simp) HS0.out ?_
          try simp only [List.set_cons_zero, List.set_cons_succ]
          refine take_val 3 (.int .i64 (c : Int)) rfl (by kernel_rfl) (by kernel_rfl) (by kernel_rfl) (fun _ _ _ _ h => h) (by rfl) rfl (fun wz hS => by go_simp) HS0.out ?_
          try simp only [List.set_cons_zero, List.set_cons_succ]
          refine take_val 4 (.int .i64 (pc : Int)) rfl (by kernel_rfl) (by kernel_rfl) (by kernel_rfl) (fun _ _ _ _ h => h) (by rfl) rfl (fun wz hS => by go_simp) HS0.out ?_
          try simp only [List.set_cons_zero, List.set_cons_succ]
          refine take_val 5 (.pointer (some ⟨g, pc, none⟩)) rfl (by kernel_rfl) (by kernel_rfl) (by kernel_rfl) (fun _ _ _ _ h => h) (by rfl) rfl (fun wz hS => by go_simp) HS0.out ?_
          try simp only [List.set_cons_zero, List.set_cons_succ]
          refine take_val 6 (.int .i64 (y : Int)) rfl (by kernel_rfl) (by kernel_rfl) (by kernel_rfl) (fun _ _ _ _ h => h) (by rfl) rfl (fun wz hS => by have hzc := hS.1.cell HYQ.out; go_simp) HS0.out ?_
          try simp only [List.set_cons_zero, List.set_cons_succ]
          refine take_val 7 (.slice (some ⟨g, 0, none⟩) n cap) rfl (by kernel_rfl) (by kernel_rfl) (by kernel_rfl) (fun _ _ _ _ h => h) (by rfl) rfl (fun wz hS => by go_simp) HS0.out ?_
          try simp only [List.set_cons_zero, List.set_cons_succ]
          refine take_val 8 (.int .i64 (c : Int)) rfl (by kernel_rfl) (by kernel_rfl) (by kernel_rfl) (fun _ _ _ _ h => h) (by rfl) rfl (fun wz hS => by go_simp) HS0.out ?_
          try simp only [List.set_cons_zero, List.set_cons_succ]
          refine take_val 9 (.pointer (some ⟨g, c, none⟩)) rfl (by kernel_rfl) (by kernel_rfl) (by kernel_rfl) (fun _ _ _ _ h => h) (by rfl) rfl (fun wz hS => by go_simp) HS0.out ?_
          try simp only [List.set_cons_zero, List.set_cons_succ]
          refine take_val 10 (.int .i64 (x : Int)) rfl (by kernel_rfl) (by kernel_rfl) (by kernel_rfl) (fun _ _ _ _ h => h) (by rfl) rfl (fun wz hS => by have hzc := hS.1.cell HXQ.out; go_simp) HS0.out ?_
          try simp only [List.set_cons_zero, List.set_cons_succ]
          generalize wr.drew = v0 at *
          refine one_ready 11 (by kernel_rfl) rfl (by rfl) (fun KQ hK => ?_)
          refine wp_call_run (f := 14) (args := #[.int .i64 (y : Int), .int .i64 (x : Int), .pointer (some ⟨B, 0, none⟩)]) (by kernel_rfl) (HC.out y x v0 HELY.out HELX.out HS0.out.2) ?_
          rintro e u1 ⟨⟨rr, rfl, hr⟩, hbu⟩
          refine ⟨_, rfl, ?_⟩
          have HS1 := Lib.hid (show DR u1 g LL sp ∧ GX g w u1 from ⟨HS0.out.1.below hbu, HS0.out.2.step hbu⟩)
          clear hbu
          refine hK.out _ _ HS1.out ?_
          clear hK KQ
          try simp only [Act.put, List.setIfInBounds_toArray]
          try simp only [List.set_cons_zero, List.set_cons_succ]
          by_cases hkey : key y < key x
          · have hr0 : rr < 0 := hr.2 hkey
            have HKEY := Lib.hid hkey
            clear hr hkey
            refine take_val 12 (.bool true) rfl (by kernel_rfl) (by kernel_rfl) (by kernel_rfl) (fun _ _ _ _ h => h) (by rfl) rfl (fun wz hS => by go_simp) HS1.out ?_
            try simp only [List.set_cons_zero, List.set_cons_succ]
            refine take_val 13 (.bool false) rfl (by kernel_rfl) (by kernel_rfl) (by kernel_rfl) (fun _ _ _ _ h => h) (by rfl) rfl (fun wz hS => by go_simp) HS1.out ?_
            try simp only [List.set_cons_zero, List.set_cons_succ]
            refine wpAnyH_done (by kernel_rfl) ?_ _
            refine NoPanic.normal ?_
            have HDR2 : Hid (DR u1 g LL sp) := Lib.hid HS1.out.1
            have HGX2 : Hid (GX g w u1) := Lib.hid HS1.out.2
            clear HS0 HS1 hr0 HDR HGX
            go_wp2_with fail
            go_roundw
            case rel => exact ⟨s, c, rfl, rfl, by omega, by omega, by omega, HLO, Lib.hid (.inr ⟨x, y, HXX.out, HYY.out, HKEY.out⟩), HDR2, HGX2⟩
            case measure => simp [intOf]; omega
          · have hr0 : ¬ rr < 0 := fun h => hkey (hr.1 h)
            have HKEY := Lib.hid hkey
            clear hr hkey
            refine take_val 12 (.bool false) rfl (by kernel_rfl) (by kernel_rfl) (by kernel_rfl) (fun _ _ _ _ h => h) (by rfl) rfl (fun wz hS => by go_simp) HS1.out ?_
            try simp only [List.set_cons_zero, List.set_cons_succ]
            refine take_val 13 (.bool true) rfl (by kernel_rfl) (by kernel_rfl) (by kernel_rfl) (fun _ _ _ _ h => h) (by rfl) rfl (fun wz hS => by go_simp) HS1.out ?_
            try simp only [List.set_cons_zero, List.set_cons_succ]
            refine wpAnyH_done (by kernel_rfl) ?_ _
            refine NoPanic.normal ?_
            have HDR2 : Hid (DR u1 g LL sp) := Lib.hid HS1.out.1
            have HGX2 : Hid (GX g w u1) := Lib.hid HS1.out.2
            clear HS0 HS1 hr0 HDR HGX
            go_wp2_with fail
            go_roundw
            case rel => exact ⟨c + 1, r, by go_num, rfl, by omega, by omega, by omega, Lib.hid (.inr ⟨x, y, HXX.out, HYY.out, Int.not_lt.1 HKEY.out⟩), HHI, HDR2, HGX2⟩
            case measure => simp [intOf]; omega
        · have m1 : ¬ (s : Int) < (r : Int) := by omega
          have hsr2 : s = r := by omega
          obtain ⟨e, hee⟩ : ∃ e, e = mid + m - s := ⟨_, rfl⟩
          have hhv := halves HW.out HXS.out HYS.out (s - a) (mid - s)
          have HV1 := Lib.hid hhv.w1
          have HV2 := Lib.hid hhv.w2
          have HV3 := Lib.hid hhv.s1
          have HV4 := Lib.hid hhv.s2
          have HV5 := Lib.hid hhv.s3
          have HV6 := Lib.hid hhv.s4
          clear hhv
          have HLX : Hid ((X.take (s - a)).length = s - a) := Lib.hid (by rw [List.length_take]; have := HX.out; omega)
          have HLU : Hid ((X.drop (s - a)).length = m - s) := Lib.hid (by rw [List.length_drop]; have := HX.out; omega)
          have HLV : Hid ((Y.take (mid - s)).length = mid - s) := Lib.hid (by rw [List.length_take]; have := HY.out; omega)
          have HLY : Hid ((Y.drop (mid - s)).length = b - m - (mid - s)) := Lib.hid (by rw [List.length_drop]; have := HY.out; omega)
          have HE1 : Hid (∀ x ∈ X.take (s - a) ++ Y.take (mid - s), x ∈ X ++ Y) := Lib.hid fun x hx => by
            rcases List.mem_append.1 hx with hx | hx
            · exact List.mem_append_left _ (List.mem_of_mem_take hx)
            · exact List.mem_append_right _ (List.mem_of_mem_take hx)
          have HE2 : Hid (∀ x ∈ X.drop (s - a) ++ Y.drop (mid - s), x ∈ X ++ Y) := Lib.hid fun x hx => by
            rcases List.mem_append.1 hx with hx | hx
            · exact List.mem_append_left _ (List.mem_of_mem_drop hx)
            · exact List.mem_append_right _ (List.mem_of_mem_drop hx)
          have HLS : Hid (LL = (A ++ X.take (s - a)) ++ (X.drop (s - a) ++ (Y.take (mid - s) ++ (Y.drop (mid - s) ++ C)))) := Lib.hid (by
            rw [← HLQ.out]
            have e1 : X.take (s - a) ++ X.drop (s - a) = X := List.take_append_drop _ _
            have e2 : Y.take (mid - s) ++ Y.drop (mid - s) = Y := List.take_append_drop _ _
            rw [List.append_assoc A, ← List.append_assoc (X.take (s - a)), e1, ← List.append_assoc (Y.take (mid - s)), e2, List.append_assoc])
          have HCM : Hid (∀ Z1 Z2, Mrg key id (X.take (s - a)) (Y.take (mid - s)) Z1 → Mrg key id (X.drop (s - a)) (Y.drop (mid - s)) Z2 → Mrg key id X Y (Z1 ++ Z2)) := Lib.hid fun Z1 Z2 h1 h2 => cut_mrg (a := a) (m := m) (b := b) (by have := HX.out; omega) (by have := HY.out; omega) (by omega) (by omega) (by omega) (by omega) (by omega) (by omega) (by omega) (by omega) HW.out HXS.out HYS.out (by
            rcases HHI.out with h | h
            · rcases HR0C.out with h2 | h2
              · exact .inl (by omega)
              · exact .inr (.inl (by omega))
            · exact .inr (.inr (by rw [hsr2]; exact h))) (by
            rcases HLO.out with h | h
            · rcases HS0C.out with h2 | h2
              · exact .inl (by omega)
              · exact .inr (.inl (by omega))
            · exact .inr (.inr h)) h1 h2
          generalize X.take (s - a) = X1 at *
          generalize X.drop (s - a) = u at *
          generalize Y.take (mid - s) = v at *
          generalize Y.drop (mid - s) = Y2 at *
          clear hsr2 HLO HHI
          by_cases t0 : s < m
          · by_cases t1 : s < mid
            · by_cases t2 : a < s
              · by_cases t3 : mid + m < s + b
                · have q1 : (s : Int) < (m : Int) := by omega
                  have q2 : (m : Int) < (e : Int) := by omega
                  have q3 : (a : Int) < (s : Int) := by omega
                  have q4 : (s : Int) < (mid : Int) := by omega
                  have q5 : (mid : Int) < (e : Int) := by omega
                  have q6 : (e : Int) < (b : Int) := by omega
                  have wle : IntKind.i64.wrap ((n2 : Int) - (s : Int)) = (e : Int) := by have h2 := HN2.out; rw [wraps_i64 _ (by omega) (by omega)]; omega
                  have HEE := Lib.hid hee
                  clear hee
                  go_wp2_with fail
                  refine (rotate_any g n cap s m e (.func (.func 14) #[] #[.pointer (some ⟨B, 0, none⟩)]) (A ++ X1) u v (Y2 ++ C) sp wr (by rw [← HLS.out]; exact HDR.out) (by rw [← HLS.out]; exact HLN.out) hs (by rw [List.length_append, HA.out, HLX.out]; omega) (by have := HLU.out; omega) (by have := HLV.out; have := HEE.out; omega) (by intro h; have h1 := HLU.out; rw [h] at h1; simp only [List.length_nil] at h1; omega) (by intro h; have h1 := HLV.out; rw [h] at h1; simp only [List.length_nil] at h1; omega)).mono ?_
                  rintro en w5 ⟨rfl, hd5, hg5⟩
                  have HDM : Hid (DR w5 g (A ++ ((X1 ++ v) ++ ((u ++ Y2) ++ C))) sp) := Lib.hid (by simpa using hd5)
                  have HG5 := Lib.hid (HGX.out.trans hg5)
                  clear hd5 hg5
                  go_wp2_with fail
                  refine (ih a s mid A X1 v ((u ++ Y2) ++ C) w5 (fun x y u hx hy hu => HC.out x y u hx hy (HG5.out.trans hu)) (fun x hx => HEL.out x (HE1.out x hx)) HDM.out (by have h1 := HLU.out; have h2 := HLY.out; have h3 := HN.out; have h4 := HEE.out; simp only [List.length_append]; omega) hs HA.out (by have := HLX.out; omega) (by have := HLV.out; omega) (by intro h; have h1 := HLX.out; rw [h] at h1; simp only [List.length_nil] at h1; omega) (by intro h; have h1 := HLV.out; rw [h] at h1; simp only [List.length_nil] at h1; omega) HV1.out HV3.out HV4.out (by omega)).mono ?_
                  rintro en w6 ⟨rfl, Z1, hmg1, hd6, hg6⟩
                  have HG6 := Lib.hid (HG5.out.trans hg6)
                  have HZ1 := Lib.hid hmg1
                  have HD6 := Lib.hid hd6
                  clear hmg1 hd6 hg6
                  go_wp2_with fail
                  have HLZ : Hid ((A ++ Z1).length = mid) := Lib.hid (by have h1 := HZ1.out.perm.length_eq; have h2 := HLX.out; have h3 := HLV.out; have h4 := HA.out; simp only [List.length_append] at h1 ⊢; omega)
                  refine (ih mid e b (A ++ Z1) u Y2 C w6 (fun x y u hx hy hu => HC.out x y u hx hy (HG6.out.trans hu)) (fun x hx => HEL.out x (HE2.out x hx)) (by rw [List.append_assoc]; exact HD6.out) HN.out hs HLZ.out (by have := HLU.out; have := HEE.out; omega) (by have := HLY.out; have := HEE.out; omega) (by intro h; have h1 := HLU.out; rw [h] at h1; simp only [List.length_nil] at h1; omega) (by intro h; have h2 := HEE.out; have h1 := HLY.out; rw [h] at h1; simp only [List.length_nil] at h1; omega) HV2.out HV5.out HV6.out (by omega)).mono ?_
                  rintro en w7 ⟨rfl, Z2, hmg2, hd7, hg7⟩
                  have HG7 := Lib.hid (HG6.out.trans hg7)
                  have HZ2 := Lib.hid hmg2
                  have HD7 : Hid (DR w7 g (A ++ ((Z1 ++ Z2) ++ C)) sp) := Lib.hid (by rw [List.append_assoc] at hd7; rw [List.append_assoc]; exact hd7)
                  clear hmg2 hd7 hg7
                  go_wp2_with fail
                  go_end0
                  exact ⟨rfl, _, HCM.out _ _ HZ1.out HZ2.out, HD7.out, HG7.out⟩
                · have q1 : (s : Int) < (m : Int) := by omega
                  have q2 : (m : Int) < (e : Int) := by omega
                  have q3 : (a : Int) < (s : Int) := by omega
                  have q4 : (s : Int) < (mid : Int) := by omega
                  have q5 : (mid : Int) < (e : Int) := by omega
                  have q6 : ¬ (e : Int) < (b : Int) := by omega
                  have wle : IntKind.i64.wrap ((n2 : Int) - (s : Int)) = (e : Int) := by have h2 := HN2.out; rw [wraps_i64 _ (by omega) (by omega)]; omega
                  have HEE := Lib.hid hee
                  clear hee
                  go_wp2_with fail
                  refine (rotate_any g n cap s m e (.func (.func 14) #[] #[.pointer (some ⟨B, 0, none⟩)]) (A ++ X1) u v (Y2 ++ C) sp wr (by rw [← HLS.out]; exact HDR.out) (by rw [← HLS.out]; exact HLN.out) hs (by rw [List.length_append, HA.out, HLX.out]; omega) (by have := HLU.out; omega) (by have := HLV.out; have := HEE.out; omega) (by intro h; have h1 := HLU.out; rw [h] at h1; simp only [List.length_nil] at h1; omega) (by intro h; have h1 := HLV.out; rw [h] at h1; simp only [List.length_nil] at h1; omega)).mono ?_
                  rintro en w5 ⟨rfl, hd5, hg5⟩
                  have HDM : Hid (DR w5 g (A ++ ((X1 ++ v) ++ ((u ++ Y2) ++ C))) sp) := Lib.hid (by simpa using hd5)
                  have HG5 := Lib.hid (HGX.out.trans hg5)
                  clear hd5 hg5
                  go_wp2_with fail
                  refine (ih a s mid A X1 v ((u ++ Y2) ++ C) w5 (fun x y u hx hy hu => HC.out x y u hx hy (HG5.out.trans hu)) (fun x hx => HEL.out x (HE1.out x hx)) HDM.out (by have h1 := HLU.out; have h2 := HLY.out; have h3 := HN.out; have h4 := HEE.out; simp only [List.length_append]; omega) hs HA.out (by have := HLX.out; omega) (by have := HLV.out; omega) (by intro h; have h1 := HLX.out; rw [h] at h1; simp only [List.length_nil] at h1; omega) (by intro h; have h1 := HLV.out; rw [h] at h1; simp only [List.length_nil] at h1; omega) HV1.out HV3.out HV4.out (by omega)).mono ?_
                  rintro en w6 ⟨rfl, Z1, hmg1, hd6, hg6⟩
                  have HG6 := Lib.hid (HG5.out.trans hg6)
                  have HZ1 := Lib.hid hmg1
                  have HD6 := Lib.hid hd6
                  clear hmg1 hd6 hg6
                  go_wp2_with fail
                  have HLZ : Hid ((A ++ Z1).length = mid) := Lib.hid (by have h1 := HZ1.out.perm.length_eq; have h2 := HLX.out; have h3 := HLV.out; have h4 := HA.out; simp only [List.length_append] at h1 ⊢; omega)
                  have HZ2 : Hid (Mrg key id u Y2 (u ++ Y2)) := Lib.hid (mrg_empty HV2.out HV5.out HV6.out (.inr (List.eq_nil_of_length_eq_zero (by have := HLY.out; have := HEE.out; omega))))
                  have HD7 : Hid (DR w6 g (A ++ ((Z1 ++ (u ++ Y2)) ++ C)) sp) := Lib.hid (by have := HD6.out; rw [List.append_assoc Z1]; exact this)
                  go_end0
                  exact ⟨rfl, _, HCM.out _ _ HZ1.out HZ2.out, HD7.out, HG6.out⟩
              · by_cases t3 : mid + m < s + b
                · have q1 : (s : Int) < (m : Int) := by omega
                  have q2 : (m : Int) < (e : Int) := by omega
                  have q3 : ¬ (a : Int) < (s : Int) := by omega
                  have q4 : (s : Int) < (mid : Int) := by omega
                  have q5 : (mid : Int) < (e : Int) := by omega
                  have q6 : (e : Int) < (b : Int) := by omega
                  have wle : IntKind.i64.wrap ((n2 : Int) - (s : Int)) = (e : Int) := by have h2 := HN2.out; rw [wraps_i64 _ (by omega) (by omega)]; omega
                  have HEE := Lib.hid hee
                  clear hee
                  go_wp2_with fail
                  refine (rotate_any g n cap s m e (.func (.func 14) #[] #[.pointer (some ⟨B, 0, none⟩)]) (A ++ X1) u v (Y2 ++ C) sp wr (by rw [← HLS.out]; exact HDR.out) (by rw [← HLS.out]; exact HLN.out) hs (by rw [List.length_append, HA.out, HLX.out]; omega) (by have := HLU.out; omega) (by have := HLV.out; have := HEE.out; omega) (by intro h; have h1 := HLU.out; rw [h] at h1; simp only [List.length_nil] at h1; omega) (by intro h; have h1 := HLV.out; rw [h] at h1; simp only [List.length_nil] at h1; omega)).mono ?_
                  rintro en w5 ⟨rfl, hd5, hg5⟩
                  have HDM : Hid (DR w5 g (A ++ ((X1 ++ v) ++ ((u ++ Y2) ++ C))) sp) := Lib.hid (by simpa using hd5)
                  have HG5 := Lib.hid (HGX.out.trans hg5)
                  clear hd5 hg5
                  go_wp2_with fail
                  have HZ1 : Hid (Mrg key id X1 v (X1 ++ v)) := Lib.hid (mrg_empty HV1.out HV3.out HV4.out (.inl (List.eq_nil_of_length_eq_zero (by have := HLX.out; omega))))
                  have HLZ : Hid ((A ++ (X1 ++ v)).length = mid) := Lib.hid (by have h1 := HZ1.out.perm.length_eq; have h2 := HLX.out; have h3 := HLV.out; have h4 := HA.out; simp only [List.length_append] at h1 ⊢; omega)
                  refine (ih mid e b (A ++ (X1 ++ v)) u Y2 C w5 (fun x y u hx hy hu => HC.out x y u hx hy (HG5.out.trans hu)) (fun x hx => HEL.out x (HE2.out x hx)) (by rw [List.append_assoc]; exact HDM.out) HN.out hs HLZ.out (by have := HLU.out; have := HEE.out; omega) (by have := HLY.out; have := HEE.out; omega) (by intro h; have h1 := HLU.out; rw [h] at h1; simp only [List.length_nil] at h1; omega) (by intro h; have h2 := HEE.out; have h1 := HLY.out; rw [h] at h1; simp only [List.length_nil] at h1; omega) HV2.out HV5.out HV6.out (by omega)).mono ?_
                  rintro en w7 ⟨rfl, Z2, hmg2, hd7, hg7⟩
                  have HG7 := Lib.hid (HG5.out.trans hg7)
                  have HZ2 := Lib.hid hmg2
                  have HD7 : Hid (DR w7 g (A ++ (((X1 ++ v) ++ Z2) ++ C)) sp) := Lib.hid (by rw [List.append_assoc] at hd7; rw [List.append_assoc]; exact hd7)
                  clear hmg2 hd7 hg7
                  go_wp2_with fail
                  go_end0
                  exact ⟨rfl, _, HCM.out _ _ HZ1.out HZ2.out, HD7.out, HG7.out⟩
                · have q1 : (s : Int) < (m : Int) := by omega
                  have q2 : (m : Int) < (e : Int) := by omega
                  have q3 : ¬ (a : Int) < (s : Int) := by omega
                  have q4 : (s : Int) < (mid : Int) := by omega
                  have q5 : (mid : Int) < (e : Int) := by omega
                  have q6 : ¬ (e : Int) < (b : Int) := by omega
                  have wle : IntKind.i64.wrap ((n2 : Int) - (s : Int)) = (e : Int) := by have h2 := HN2.out; rw [wraps_i64 _ (by omega) (by omega)]; omega
                  have HEE := Lib.hid hee
                  clear hee
                  go_wp2_with fail
                  refine (rotate_any g n cap s m e (.func (.func 14) #[] #[.pointer (some ⟨B, 0, none⟩)]) (A ++ X1) u v (Y2 ++ C) sp wr (by rw [← HLS.out]; exact HDR.out) (by rw [← HLS.out]; exact HLN.out) hs (by rw [List.length_append, HA.out, HLX.out]; omega) (by have := HLU.out; omega) (by have := HLV.out; have := HEE.out; omega) (by intro h; have h1 := HLU.out; rw [h] at h1; simp only [List.length_nil] at h1; omega) (by intro h; have h1 := HLV.out; rw [h] at h1; simp only [List.length_nil] at h1; omega)).mono ?_
                  rintro en w5 ⟨rfl, hd5, hg5⟩
                  have HDM : Hid (DR w5 g (A ++ ((X1 ++ v) ++ ((u ++ Y2) ++ C))) sp) := Lib.hid (by simpa using hd5)
                  have HG5 := Lib.hid (HGX.out.trans hg5)
                  clear hd5 hg5
                  go_wp2_with fail
                  have HZ1 : Hid (Mrg key id X1 v (X1 ++ v)) := Lib.hid (mrg_empty HV1.out HV3.out HV4.out (.inl (List.eq_nil_of_length_eq_zero (by have := HLX.out; omega))))
                  have HLZ : Hid ((A ++ (X1 ++ v)).length = mid) := Lib.hid (by have h1 := HZ1.out.perm.length_eq; have h2 := HLX.out; have h3 := HLV.out; have h4 := HA.out; simp only [List.length_append] at h1 ⊢; omega)
                  have HZ2 : Hid (Mrg key id u Y2 (u ++ Y2)) := Lib.hid (mrg_empty HV2.out HV5.out HV6.out (.inr (List.eq_nil_of_length_eq_zero (by have := HLY.out; have := HEE.out; omega))))
                  have HD7 : Hid (DR w5 g (A ++ (((X1 ++ v) ++ (u ++ Y2)) ++ C)) sp) := Lib.hid (by have := HDM.out; rw [List.append_assoc (X1 ++ v)]; exact this)
                  go_end0
                  exact ⟨rfl, _, HCM.out _ _ HZ1.out HZ2.out, HD7.out, HG5.out⟩
            · by_cases t2 : a < s
              · by_cases t3 : mid + m < s + b
                · exfalso; omega
                · exfalso; omega
              · by_cases t3 : mid + m < s + b
                · exfalso; omega
                · exfalso; omega
          · by_cases t1 : s < mid
            · by_cases t2 : a < s
              · by_cases t3 : mid + m < s + b
                · have q1 : ¬ (s : Int) < (m : Int) := by omega
                  have q2 : (m : Int) < (e : Int) := by omega
                  have q3 : (a : Int) < (s : Int) := by omega
                  have q4 : (s : Int) < (mid : Int) := by omega
                  have q5 : ¬ (mid : Int) < (e : Int) := by omega
                  have q6 : (e : Int) < (b : Int) := by omega
                  have wle : IntKind.i64.wrap ((n2 : Int) - (s : Int)) = (e : Int) := by have h2 := HN2.out; rw [wraps_i64 _ (by omega) (by omega)]; omega
                  have HEE := Lib.hid hee
                  have HDM : Hid (DR wr g (A ++ ((X1 ++ v) ++ ((u ++ Y2) ++ C))) sp) := Lib.hid (by
                    have hd0 := HDR.out
                    rw [HLS.out] at hd0
                    have he : u = [] := List.eq_nil_of_length_eq_zero (by have := HLU.out; omega)
                    rw [he] at hd0 ⊢
                    simpa using hd0)
                  clear hee
                  go_wp2_with fail
                  refine (ih a s mid A X1 v ((u ++ Y2) ++ C) wr (fun x y u hx hy hu => HC.out x y u hx hy (HGX.out.trans hu)) (fun x hx => HEL.out x (HE1.out x hx)) HDM.out (by have h1 := HLU.out; have h2 := HLY.out; have h3 := HN.out; have h4 := HEE.out; simp only [List.length_append]; omega) hs HA.out (by have := HLX.out; omega) (by have := HLV.out; omega) (by intro h; have h1 := HLX.out; rw [h] at h1; simp only [List.length_nil] at h1; omega) (by intro h; have h1 := HLV.out; rw [h] at h1; simp only [List.length_nil] at h1; omega) HV1.out HV3.out HV4.out (by omega)).mono ?_
                  rintro en w6 ⟨rfl, Z1, hmg1, hd6, hg6⟩
                  have HG6 := Lib.hid (HGX.out.trans hg6)
                  have HZ1 := Lib.hid hmg1
                  have HD6 := Lib.hid hd6
                  clear hmg1 hd6 hg6
                  go_wp2_with fail
                  have HLZ : Hid ((A ++ Z1).length = mid) := Lib.hid (by have h1 := HZ1.out.perm.length_eq; have h2 := HLX.out; have h3 := HLV.out; have h4 := HA.out; simp only [List.length_append] at h1 ⊢; omega)
                  have HZ2 : Hid (Mrg key id u Y2 (u ++ Y2)) := Lib.hid (mrg_empty HV2.out HV5.out HV6.out (.inl (List.eq_nil_of_length_eq_zero (by have := HLU.out; omega))))
                  have HD7 : Hid (DR w6 g (A ++ ((Z1 ++ (u ++ Y2)) ++ C)) sp) := Lib.hid (by have := HD6.out; rw [List.append_assoc Z1]; exact this)
                  go_end0
                  exact ⟨rfl, _, HCM.out _ _ HZ1.out HZ2.out, HD7.out, HG6.out⟩
                · exfalso; omega
              · by_cases t3 : mid + m < s + b
                · exfalso; omega
                · exfalso; omega
            · by_cases t2 : a < s
              · by_cases t3 : mid + m < s + b
                · have q1 : ¬ (s : Int) < (m : Int) := by omega
                  have q2 : ¬ (m : Int) < (e : Int) := by omega
                  have q3 : (a : Int) < (s : Int) := by omega
                  have q4 : ¬ (s : Int) < (mid : Int) := by omega
                  have q5 : ¬ (mid : Int) < (e : Int) := by omega
                  have q6 : (e : Int) < (b : Int) := by omega
                  have wle : IntKind.i64.wrap ((n2 : Int) - (s : Int)) = (e : Int) := by have h2 := HN2.out; rw [wraps_i64 _ (by omega) (by omega)]; omega
                  have HEE := Lib.hid hee
                  have HDM : Hid (DR wr g (A ++ ((X1 ++ v) ++ ((u ++ Y2) ++ C))) sp) := Lib.hid (by
                    have hd0 := HDR.out
                    rw [HLS.out] at hd0
                    have he : u = [] := List.eq_nil_of_length_eq_zero (by have := HLU.out; omega)
                    rw [he] at hd0 ⊢
                    simpa using hd0)
                  clear hee
                  go_wp2_with fail
                  have HZ1 : Hid (Mrg key id X1 v (X1 ++ v)) := Lib.hid (mrg_empty HV1.out HV3.out HV4.out (.inr (List.eq_nil_of_length_eq_zero (by have := HLV.out; omega))))
                  have HLZ : Hid ((A ++ (X1 ++ v)).length = mid) := Lib.hid (by have h1 := HZ1.out.perm.length_eq; have h2 := HLX.out; have h3 := HLV.out; have h4 := HA.out; simp only [List.length_append] at h1 ⊢; omega)
                  have HZ2 : Hid (Mrg key id u Y2 (u ++ Y2)) := Lib.hid (mrg_empty HV2.out HV5.out HV6.out (.inl (List.eq_nil_of_length_eq_zero (by have := HLU.out; omega))))
                  have HD7 : Hid (DR wr g (A ++ (((X1 ++ v) ++ (u ++ Y2)) ++ C)) sp) := Lib.hid (by have := HDM.out; rw [List.append_assoc (X1 ++ v)]; exact this)
                  go_end0
                  exact ⟨rfl, _, HCM.out _ _ HZ1.out HZ2.out, HD7.out, HGX.out⟩
                · exfalso; omega
              · by_cases t3 : mid + m < s + b
                · exfalso; omega
                · exfalso; omega
end Go.Proofs.Ytpfmfigommmjiaa
