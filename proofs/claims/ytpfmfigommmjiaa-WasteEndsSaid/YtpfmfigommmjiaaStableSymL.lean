/- The walk of slices' symMerge over ints. Printed by wip/gen_stable.py. -/
import Derived.Test.YtpfmfigommmjiaaStableIns
namespace Go.Proofs.Ytpfmfigommmjiaa
open Go.RowKit Plain
set_option linter.unusedVariables false
set_option linter.unusedSimpArgs false
theorem at_X {A X Y C : List Nat} {a i x : Nat} (ha : A.length = a) (h : X[i]? = some x) : (A ++ ((X ++ Y) ++ C))[a + i]? = some x := by
  have hl := (List.getElem?_eq_some_iff.1 h).1
  rw [← ha, List.append_assoc, at_left hl]
  exact h
theorem at_Y {A X Y C : List Nat} {a m j y : Nat} (ha : A.length = a) (hm : a + X.length = m) (h : Y[j]? = some y) : (A ++ ((X ++ Y) ++ C))[m + j]? = some y := by
  have hl := (List.getElem?_eq_some_iff.1 h).1
  rw [← hm, ← ha, at_right hl]
  exact h
set_option maxRecDepth 100000 in
set_option maxHeartbeats 4000000 in
theorem sym_oneL (key : Nat → Int) (El : Nat → Prop) (g n cap a m b B : Nat) (A Y C : List Nat) (x : Nat) (sp : List Value) (w : World) (hc : ∀ (x y : Nat) (u : World), El x → El y → GX g w u → Calls Try.prog 14 #[.int .i64 (x : Int), .int .i64 (y : Int), .pointer (some ⟨B, 0, none⟩)] u fun e u' => (∃ r : Int, e = .returned (.int .i64 r) ∧ (r < 0 ↔ key x < key y)) ∧ Below u.heap.size u u') (hel : ∀ z ∈ [x] ++ Y, El z) (hd : DR w g (A ++ (([x] ++ Y) ++ C)) sp) (hn : b + C.length = n) (hs : n ≤ 1000000) (ha : A.length = a) (hm : a + [x].length = m) (hb : m + Y.length = b) (hw : ([x] ++ Y).Pairwise (WPr key id)) (hy : Y.Pairwise (SPr key)) :
    Calls Try.prog 21 #[.slice (some ⟨g, 0, none⟩) n cap, .int .i64 (a : Int), .int .i64 (m : Int), .int .i64 (b : Int), .func (.func 14) #[] #[.pointer (some ⟨B, 0, none⟩)]] w fun e w' => e = .returned (.tuple #[]) ∧ ∃ Z, Mrg key id [x] Y Z ∧ DR w' g (A ++ (Z ++ C)) sp ∧ GX g w w' := by
  have HC := Lib.hid hc
  have HEL := Lib.hid hel
  have HA := Lib.hid ha
  have HM := Lib.hid hm
  have HB := Lib.hid hb
  have HN := Lib.hid hn
  have HW := Lib.hid hw
  have HYS := Lib.hid hy
  have hma : m = a + 1 := by simpa using hm.symm
  have w0 : IntKind.i64.wrap ((m : Int) - (a : Int)) = 1 := by rw [wraps_i64 _ (by omega) (by omega)]; omega
  obtain ⟨LL, hLL⟩ : ∃ LL, A ++ (([x] ++ Y) ++ C) = LL := ⟨_, rfl⟩
  have HYC : Hid (∀ j y, Y[j]? = some y → LL[m + j]? = some y) := Lib.hid fun j y h => by rw [← hLL]; exact at_Y ha hm h
  have HXA : Hid (LL[a]? = some x) := Lib.hid (by rw [← hLL]; have := at_X (A := A) (X := [x]) (Y := Y) (C := C) (i := 0) (x := x) ha rfl; rwa [Nat.add_zero] at this)
  have HELX : Hid (El x) := Lib.hid (hel x (by simp))
  rw [hLL] at hd
  have HD := Lib.hid hd
  have HLQ := Lib.hid hLL
  have HMA := Lib.hid hma
  clear hc hel hd hn ha hm hb hw hy hLL hma
  go_enter Try.func21, Try.ntmps21
  go_wp2_with fail
  clear w0
  go_loopw [10, 11] (fun iv jv wr => ∃ i j : Nat, iv = .int .i64 (i : Int) ∧ jv = .int .i64 (j : Int) ∧ m ≤ i ∧ i ≤ j ∧ j ≤ b ∧ Hid (i = m ∨ ∃ y, Y[i - 1 - m]? = some y ∧ key y < key x) ∧ Hid (j = b ∨ ∃ y, Y[j - m]? = some y ∧ key x ≤ key y) ∧ Hid (DR wr g LL sp) ∧ Hid (GX g w wr)) (fun iv jv _ => (intOf jv).toNat - (intOf iv).toNat)
  case atStart => exact ⟨m, b, rfl, rfl, Nat.le_refl _, by have := HB.out; omega, Nat.le_refl _, Lib.hid (.inl rfl), Lib.hid (.inl rfl), HD, Lib.hid (GX.refl g w)⟩
  case round =>
    obtain ⟨i, j, rfl, rfl, hmi, hij, hjb, HLO, HHI, HDR, HGX⟩ := hrel
    have hbn : b ≤ n := by have := HN.out; omega
    by_cases hlt : i < j
    · have m1 : (i : Int) < (j : Int) := by omega
      obtain ⟨h, hmd⟩ : ∃ h, h = (i + j) / 2 := ⟨_, rfl⟩
      have em : ((i : Int) + (j : Int)) / 2 = (h : Int) := by omega
      have HEM := Lib.hid em
      have hmlo : i ≤ h := by omega
      have hmhi : h < j := by omega
      have HMD := Lib.hid hmd
      obtain ⟨y, hy⟩ : ∃ y, Y[h - m]? = some y := ⟨_, List.getElem?_eq_getElem (by have := HB.out; omega)⟩
      have HY := Lib.hid hy
      have HXQ : Hid (LL[h]? = some y) := Lib.hid (by have := HYC.out (h - m) y hy; rwa [show m + (h - m) = h by omega] at this)
      have HELY : Hid (El y) := Lib.hid (HEL.out y (List.mem_append_right _ (List.mem_of_getElem? hy)))
      have h0 : (0 : Int) ≤ (h : Int) := Int.natCast_nonneg _
      have h1 : (h : Int) < (n : Int) := by have := HB.out; have := HN.out; omega
      have a0 : (0 : Int) ≤ (a : Int) := Int.natCast_nonneg _
      have a1 : (a : Int) < (n : Int) := by have := HB.out; have := HM.out; have := HN.out; omega
      have wij : IntKind.i64.wrap ((i : Int) + (j : Int)) = (i : Int) + (j : Int) := wraps_i64 _ (by omega) (by omega)
      clear em hmd hy
      go_wp2_with fail
      rw [HEM.out]
      try go_wp2_with fail
      refine wp_region_noPanic ?_
      refine wp_region_held_drew (S := fun u => DR u g LL sp ∧ GX g w u) (by kernel_rfl) ⟨HDR.out, HGX.out.drew⟩ (fun hS0 => ?_)
      have HS0 := Lib.hid hS0
      clear hS0
      refine take_val 0 (.func (.func 14) #[] #[.pointer (some ⟨B, 0, none⟩)]) rfl (by kernel_rfl) (by kernel_rfl) (by kernel_rfl) (fun _ _ _ _ h => h) (by rfl) rfl (fun wz hS => by go_simp) HS0.out ?_
      try simp only [List.set_cons_zero, List.set_cons_succ]
      refine take_val 1 (.slice (some ⟨g, 0, none⟩) n cap) rfl (by kernel_rfl) (by kernel_rfl) (by kernel_rfl) (fun _ _ _ _ h => h) (by rfl) rfl (fun wz hS => by go_simp) HS0.out ?_
      try simp only [List.set_cons_zero, List.set_cons_succ]
      refine take_val 2 (.int .i64 (h : Int)) rfl (by kernel_rfl) (by kernel_rfl) (by kernel_rfl) (fun _ _ _ _ h => h) (by rfl) rfl (fun wz hS => by go_simp) HS0.out ?_
      try simp only [List.set_cons_zero, List.set_cons_succ]
      refine take_val 3 (.pointer (some ⟨g, h, none⟩)) rfl (by kernel_rfl) (by kernel_rfl) (by kernel_rfl) (fun _ _ _ _ h => h) (by rfl) rfl (fun wz hS => by go_simp) HS0.out ?_
      try simp only [List.set_cons_zero, List.set_cons_succ]
      refine take_val 4 (.int .i64 (y : Int)) rfl (by kernel_rfl) (by kernel_rfl) (by kernel_rfl) (fun _ _ _ _ h => h) (by rfl) rfl (fun wz hS => by have hzc := hS.1.cell HXQ.out; go_simp) HS0.out ?_
      try simp only [List.set_cons_zero, List.set_cons_succ]
      refine take_val 5 (.slice (some ⟨g, 0, none⟩) n cap) rfl (by kernel_rfl) (by kernel_rfl) (by kernel_rfl) (fun _ _ _ _ h => h) (by rfl) rfl (fun wz hS => by go_simp) HS0.out ?_
      try simp only [List.set_cons_zero, List.set_cons_succ]
      refine take_val 6 (.int .i64 (a : Int)) rfl (by kernel_rfl) (by kernel_rfl) (by kernel_rfl) (fun _ _ _ _ h => h) (by rfl) rfl (fun wz hS => by go_simp) HS0.out ?_
      try simp only [List.set_cons_zero, List.set_cons_succ]
      refine take_val 7 (.pointer (some ⟨g, a, none⟩)) rfl (by kernel_rfl) (by kernel_rfl) (by kernel_rfl) (fun _ _ _ _ h => h) (by rfl) rfl (fun wz hS => by go_simp) HS0.out ?_
      try simp only [List.set_cons_zero, List.set_cons_succ]
      refine take_val 8 (.int .i64 (x : Int)) rfl (by kernel_rfl) (by kernel_rfl) (by kernel_rfl) (fun _ _ _ _ h => h) (by rfl) rfl (fun wz hS => by have hzc := hS.1.cell HXA.out; go_simp) HS0.out ?_
      try simp only [List.set_cons_zero, List.set_cons_succ]
      generalize wr.drew = v0 at *
      refine one_ready 9 (by kernel_rfl) rfl (by rfl) (fun KQ hK => ?_)
      refine wp_call_run (f := 14) (args := #[.int .i64 (y : Int), .int .i64 (x : Int), .pointer (some ⟨B, 0, none⟩)]) (by kernel_rfl) (HC.out y x v0 HELY.out HELX.out HS0.out.2) ?_
      rintro e u1 ⟨⟨rr, rfl, hr⟩, hbu⟩
      refine ⟨_, rfl, ?_⟩
      have HS1 := Lib.hid (show DR u1 g LL sp ∧ GX g w u1 from ⟨HS0.out.1.below hbu, HS0.out.2.step hbu⟩)
      clear hbu
      refine hK.out _ _ HS1.out ?_
      clear hK KQ
      try simp only [Act.put, List.setIfInBounds_toArray]
      try simp only [List.set_cons_zero, List.set_cons_succ]
      by_cases hkey : key y < key x
      · have hr0 : rr < 0 := hr.2 hkey
        have HKEY := Lib.hid hkey
        clear hr hkey
        refine take_val 10 (.bool true) rfl (by kernel_rfl) (by kernel_rfl) (by kernel_rfl) (fun _ _ _ _ h => h) (by rfl) rfl (fun wz hS => by go_simp) HS1.out ?_
        try simp only [List.set_cons_zero, List.set_cons_succ]
        refine wpAnyH_done (by kernel_rfl) ?_ _
        refine NoPanic.normal ?_
        have HDR2 : Hid (DR u1 g LL sp) := Lib.hid HS1.out.1
        have HGX2 : Hid (GX g w u1) := Lib.hid HS1.out.2
        clear HS0 HS1 hr0 HDR HGX
        go_wp2_with fail
        go_roundw
        case rel => exact ⟨h + 1, j, by go_num, rfl, by omega, by omega, by omega, Lib.hid (.inr ⟨y, by rw [show h + 1 - 1 - m = h - m by omega]; exact HY.out, HKEY.out⟩), HHI, HDR2, HGX2⟩
        case measure => simp [intOf]; omega
      · have hr0 : ¬ rr < 0 := fun h => hkey (hr.1 h)
        have HKEY := Lib.hid hkey
        clear hr hkey
        refine take_val 10 (.bool false) rfl (by kernel_rfl) (by kernel_rfl) (by kernel_rfl) (fun _ _ _ _ h => h) (by rfl) rfl (fun wz hS => by go_simp) HS1.out ?_
        try simp only [List.set_cons_zero, List.set_cons_succ]
        refine wpAnyH_done (by kernel_rfl) ?_ _
        refine NoPanic.normal ?_
        have HDR2 : Hid (DR u1 g LL sp) := Lib.hid HS1.out.1
        have HGX2 : Hid (GX g w u1) := Lib.hid HS1.out.2
        clear HS0 HS1 hr0 HDR HGX
        go_wp2_with fail
        go_roundw
        case rel => exact ⟨i, h, rfl, rfl, by omega, by omega, by omega, HLO, Lib.hid (.inr ⟨y, HY.out, Int.not_lt.1 HKEY.out⟩), HDR2, HGX2⟩
        case measure => simp [intOf]; omega
    · have m1 : ¬ (i : Int) < (j : Int) := by omega
      obtain rfl : i = j := by omega
      have hY := HB.out
      have hMA := HMA.out
      have HMG : Hid (Mrg key id [x] Y (Y.take (i - m) ++ ([x] ++ Y.drop (i - m)))) := Lib.hid (ins_left HW.out HYS.out (by omega) (by
        rcases HLO.out with h | ⟨y, h1, h2⟩
        · exact .inl (by omega)
        · rcases Nat.lt_or_ge m i with h3 | h3
          · exact .inr ⟨y, by rw [show i - m - 1 = i - 1 - m by omega]; exact h1, h2⟩
          · exact .inl (by omega)) (by
        rcases HHI.out with h | ⟨y, h1, h2⟩
        · exact .inl (by omega)
        · exact .inr ⟨y, h1, h2⟩))
      have hdr := HDR.out
      rw [← HLQ.out] at hdr
      have HTL : Hid ((Y.take (i - m)).length = i - m) := Lib.hid (by rw [List.length_take]; omega)
      have HDR1 : Hid (DR wr g (A ++ ((x :: (Y.take (i - m) ++ Y.drop (i - m))) ++ C)) sp) := Lib.hid (by rw [List.take_append_drop]; exact hdr)
      have w1 : IntKind.i64.wrap ((i : Int) - 1) = (i : Int) - 1 := wraps_i64 _ (by omega) (by omega)
      have HBN := Lib.hid hbn
      clear hdr HDR hY hMA hbn HLO HHI
      generalize Y.take (i - m) = Y1 at *
      generalize Y.drop (i - m) = Y2 at *
      obtain ⟨wo, rfl⟩ : ∃ wo : World, wo = wr := ⟨_, rfl⟩
      go_wp2_with fail
      go_loopw [13] (fun kv wr => ∃ (p : Nat) (Ya Yb : List Nat), kv = .int .i64 (p : Int) ∧ Hid (p = a + Ya.length) ∧ Hid (Ya ++ Yb = Y1) ∧ Hid (DR wr g (A ++ ((Ya ++ (x :: (Yb ++ Y2))) ++ C)) sp) ∧ Hid (GX g w wr)) (fun kv _ => i - (intOf kv).toNat)
      case atStart => exact ⟨a, [], Y1, rfl, Lib.hid rfl, Lib.hid rfl, HDR1, HGX⟩
      case round =>
        clear HDR1 HGX
        obtain ⟨p, Ya, Yb, rfl, HP, HYY, HDR, HGX⟩ := hrel
        have hp := HP.out
        have hyy : Ya.length + Yb.length = i - m := by rw [← HTL.out, ← HYY.out, List.length_append]
        have hMA := HMA.out
        by_cases hlt2 : Yb = []
        · subst hlt2
          have m2 : ¬ (p : Int) < (i : Int) - 1 := by simp at hyy; omega
          have HFN : Hid (DR wr g (A ++ ((Y1 ++ ([x] ++ Y2)) ++ C)) sp) := Lib.hid (by have := HDR.out; have e := HYY.out; rw [List.append_nil] at e; rw [e] at this; simpa using this)
          have w1 : IntKind.i64.wrap ((i : Int) - 1) = (i : Int) - 1 := wraps_i64 _ (by omega) (by have := HBN.out; omega)
          clear hp hyy hMA
          go_wp2_with fail
          refine bodyPost_ret (results_none rfl _ _ _) rfl ?_
          exact ⟨rfl, _, HMG.out, HFN.out, HGX.out⟩
        · obtain ⟨y, Yc, hYb⟩ : ∃ y Yc, Yb = y :: Yc := by
            cases hq : Yb with
            | nil => exact absurd hq hlt2
            | cons y Yc => exact ⟨y, Yc, rfl⟩
          subst hYb
          simp only [List.length_cons] at hyy
          obtain ⟨q, hq⟩ : ∃ q, q = p + 1 := ⟨_, rfl⟩
          have hbn := HBN.out
          have m2 : (p : Int) < (i : Int) - 1 := by omega
          have HE : Hid (A ++ ((Ya ++ (x :: ((y :: Yc) ++ Y2))) ++ C) = (A ++ Ya) ++ x :: y :: (Yc ++ Y2 ++ C)) := Lib.hid (by simp)
          have HC0 : Hid (p = (A ++ Ya).length) := Lib.hid (by rw [List.length_append, HA.out]; exact hp)
          have hdr := HDR.out
          rw [HE.out] at hdr
          have HN2 : Hid (((A ++ Ya) ++ x :: y :: (Yc ++ Y2 ++ C)).length = n) := Lib.hid (by
            have h1 := HN.out
            have h2 := HA.out
            have h3 := HB.out
            have h4 : Y1.length + Y2.length = Y.length := by have := HMG.out.perm.length_eq; simp only [List.length_append, List.length_cons, List.length_nil] at this; omega
            have h5 : Ya.length + (Yc.length + 1) = Y1.length := by rw [← HYY.out]; simp
            simp only [List.length_append, List.length_cons]
            omega)
          have HXP : Hid (((A ++ Ya) ++ x :: y :: (Yc ++ Y2 ++ C))[p]? = some x) := Lib.hid (by rw [HC0.out]; exact (at_mid _ _ _ _).1)
          have HXQ : Hid (((A ++ Ya) ++ x :: y :: (Yc ++ Y2 ++ C))[q]? = some y) := Lib.hid (by rw [hq, HC0.out]; exact (at_mid _ _ _ _).2)
          have HSET : Hid (((((A ++ Ya) ++ x :: y :: (Yc ++ Y2 ++ C)).set p y).set q x) = A ++ (((Ya ++ [y]) ++ (x :: (Yc ++ Y2))) ++ C)) := Lib.hid (by rw [hq, swap_two' HC0.out]; simp)
          generalize ((A ++ Ya) ++ x :: y :: (Yc ++ Y2 ++ C)) = L3 at *
          have HLL := HN2
          have hqn : q < n := by omega
          have hpn : p < n := by omega
          have hne : ¬ p = q := by omega
          have q1 : (q : Int) < (n : Int) := by omega
          have p1 : (p : Int) < (n : Int) := by omega
          have q0 : (0 : Int) ≤ (q : Int) := Int.natCast_nonneg _
          have p0 : (0 : Int) ≤ (p : Int) := Int.natCast_nonneg _
          have w2 : IntKind.i64.wrap ((p : Int) + 1) = (q : Int) := by rw [wraps_i64 _ (by omega) (by omega)]; omega
          have w1 : IntKind.i64.wrap ((i : Int) - 1) = (i : Int) - 1 := wraps_i64 _ (by omega) (by omega)
          have HD3 : Hid (DR wr.drew g L3 sp) := Lib.hid hdr
          have HG3 := Lib.hid HGX.out.drew
          have cp := HD3.out.cell HXP.out
          have cq := HD3.out.cell HXQ.out
          have fp := HD3.out.frozen p
          have hd4 := HD3.out.set p y (by have := HLL.out; omega)
          have cq2 := hd4.cell (p := q) (x := y) (by rw [List.getElem?_set_ne (by omega)]; exact HXQ.out)
          have fq2 := hd4.frozen q
          have HD5 := Lib.hid (hd4.set q x (by rw [List.length_set]; have := HLL.out; omega))
          have HG5 := Lib.hid ((HG3.out.set p (.int .i64 (y : Int))).set q (.int .i64 (x : Int)))
          have HQ := Lib.hid hq
          clear hd4 HD3 HG3 hdr HE HC0 hp hyy hMA hq hlt2 HN2 HLL hbn
          go_wp2_with fail
          refine wp_region_any (by kernel_rfl) ?_
          have hw3 : ({ heap := wr.heap, tape := wr.tape, drawn := wr.drawn + 1, os := wr.os, output := wr.output } : World) = wr.drew := rfl
          rw [hw3]
          clear hw3
          generalize wr.drew = w3 at *
          refine wpAny_take (i := 0) (v := .slice (some ⟨g, 0, none⟩) n cap) rfl (by kernel_rfl) (by kernel_rfl) (by kernel_rfl) (fun _ _ _ h => h) (Or.inl ⟨by rfl, fun wz => by go_simp⟩) ?_
          refine wpAny_take (i := 1) (v := .int .i64 (p : Int)) rfl (by kernel_rfl) (by kernel_rfl) (by kernel_rfl) (fun _ _ _ h => h) (Or.inl ⟨by rfl, fun wz => by go_simp⟩) ?_
          refine wpAny_take (i := 2) (v := .slice (some ⟨g, 0, none⟩) n cap) rfl (by kernel_rfl) (by kernel_rfl) (by kernel_rfl) (fun _ _ _ h => h) (Or.inl ⟨by rfl, fun wz => by go_simp⟩) ?_
          refine wpAny_take (i := 3) (v := .int .i64 (p : Int)) rfl (by kernel_rfl) (by kernel_rfl) (by kernel_rfl) (fun _ _ _ h => h) (Or.inl ⟨by rfl, fun wz => by go_simp⟩) ?_
          refine wpAny_take (i := 4) (v := .int .i64 (q : Int)) rfl (by kernel_rfl) (by kernel_rfl) (by kernel_rfl) (fun _ _ _ h => h) (Or.inl ⟨by rfl, fun wz => by go_simp⟩) ?_
          refine wpAny_head [5, 6, 7, 8, 9, 10, 11, 12, 13] (fun L => (L.take 14).drop 5) 4 (fun _ => True) rfl (by kernel_rfl) (by kernel_rfl) (by kernel_rfl) (by kernel_rfl) (by kernel_rfl) rfl ?_
          simp only [List.take_succ_cons, List.take_zero, List.drop_succ_cons, List.drop_zero, List.cons_append, List.nil_append]
          repeat still_step
          refine wpStill_nil ?_
          refine take_val 14 (.pointer (some ⟨g, p, none⟩)) rfl (by kernel_rfl) (by kernel_rfl) (by kernel_rfl) (fun _ _ _ _ h => h) (by rfl) rfl (fun wz hS => by go_simp) trivial ?_
          try simp only [List.set_cons_zero, List.set_cons_succ]
          refine one_ready 15 (by kernel_rfl) rfl (by rfl) (fun K hK => ?_)
          refine wp_store_1 3 _ _ rfl g p (.int .i64 (y : Int)) rfl rfl rfl (by rw [cp]; rfl) fp (by kernel_rfl) rfl ?_
          refine hK.out _ _ trivial ?_
          simp only [Act.put]
          clear hK K
          refine take_val 16 (.pointer (some ⟨g, q, none⟩)) rfl (by kernel_rfl) (by kernel_rfl) (by kernel_rfl) (fun _ _ _ _ h => h) (by rfl) rfl (fun wz hS => by go_simp) trivial ?_
          try simp only [List.set_cons_zero, List.set_cons_succ]
          refine one_ready 17 (by kernel_rfl) rfl (by rfl) (fun K hK => ?_)
          refine wp_store_1 3 _ _ rfl g q (.int .i64 (x : Int)) rfl rfl rfl (by rw [cq2]; rfl) fq2 (by kernel_rfl) rfl ?_
          refine hK.out _ _ trivial ?_
          simp only [Act.put]
          clear hK K
          refine wpAnyH_done (by kernel_rfl) ?_ _
          simp only [Exit.inBlock, Exit.then]
          rename_i HKK
          refine HKK _ _ ?_
          clear HKK
          go_wp2_with fail
          go_roundw
          case rel => exact ⟨q, Ya ++ [y], Yc, rfl, Lib.hid (by have h1 := HP.out; have h2 := HQ.out; rw [List.length_append, List.length_singleton]; omega), Lib.hid (by rw [← HYY.out]; simp), Lib.hid (by rw [← HSET.out]; exact HD5.out), HG5⟩
          case measure => simp [intOf]; have := HQ.out; omega
end Go.Proofs.Ytpfmfigommmjiaa
