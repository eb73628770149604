/- The walk of slices' symMerge over ints, one element behind. Printed by wip/gen_stable.py. -/
import Derived.Test.YtpfmfigommmjiaaStableSymL
namespace Go.Proofs.Ytpfmfigommmjiaa
open Go.RowKit Plain
set_option linter.unusedVariables false
set_option linter.unusedSimpArgs false
set_option maxRecDepth 100000 in
set_option maxHeartbeats 4000000 in
theorem sym_oneR (key : Nat → Int) (El : Nat → Prop) (g n cap a m b B : Nat) (A X C : List Nat) (y : Nat) (sp : List Value) (w : World) (hc : ∀ (x y : Nat) (u : World), El x → El y → GX g w u → Calls Try.prog 14 #[.int .i64 (x : Int), .int .i64 (y : Int), .pointer (some ⟨B, 0, none⟩)] u fun e u' => (∃ r : Int, e = .returned (.int .i64 r) ∧ (r < 0 ↔ key x < key y)) ∧ Below u.heap.size u u') (hel : ∀ z ∈ X ++ [y], El z) (hd : DR w g (A ++ ((X ++ [y]) ++ C)) sp) (hn : b + C.length = n) (hs : n ≤ 1000000) (ha : A.length = a) (hm : a + X.length = m) (hb : m + [y].length = b) (hx1 : X.length ≠ 1) (hw : (X ++ [y]).Pairwise (WPr key id)) (hx : X.Pairwise (SPr key)) :
    Calls Try.prog 21 #[.slice (some ⟨g, 0, none⟩) n cap, .int .i64 (a : Int), .int .i64 (m : Int), .int .i64 (b : Int), .func (.func 14) #[] #[.pointer (some ⟨B, 0, none⟩)]] w fun e w' => e = .returned (.tuple #[]) ∧ ∃ Z, Mrg key id X [y] Z ∧ DR w' g (A ++ (Z ++ C)) sp ∧ GX g w w' := by
  have HC := Lib.hid hc
  have HEL := Lib.hid hel
  have HA := Lib.hid ha
  have HM := Lib.hid hm
  have HB := Lib.hid hb
  have HN := Lib.hid hn
  have HW := Lib.hid hw
  have HXS := Lib.hid hx
  have hmb : b = m + 1 := by simpa using hb.symm
  have w0 : IntKind.i64.wrap ((m : Int) - (a : Int)) = (X.length : Int) := by rw [wraps_i64 _ (by omega) (by omega)]; omega
  have w1 : IntKind.i64.wrap ((b : Int) - (m : Int)) = 1 := by rw [wraps_i64 _ (by omega) (by omega)]; omega
  have d0 : ((X.length : Int) == 1) = false := by simp; omega
  obtain ⟨LL, hLL⟩ : ∃ LL, A ++ ((X ++ [y]) ++ C) = LL := ⟨_, rfl⟩
  have HXC : Hid (∀ i x, X[i]? = some x → LL[a + i]? = some x) := Lib.hid fun i x h => by rw [← hLL]; exact at_X ha h
  have HXY : Hid (LL[m]? = some y) := Lib.hid (by rw [← hLL]; have := at_Y (A := A) (X := X) (Y := [y]) (C := C) (j := 0) (y := y) ha hm rfl; rwa [Nat.add_zero] at this)
  have HELY : Hid (El y) := Lib.hid (hel y (by simp))
  rw [hLL] at hd
  have HD := Lib.hid hd
  have HLQ := Lib.hid hLL
  have HMA := Lib.hid hmb
  clear hc hel hd hn ha hm hb hw hx hLL hmb hx1
  go_enter Try.func21, Try.ntmps21
  go_wp2_with fail
  clear w0 w1 d0
  go_loopw [14, 15] (fun iv jv wr => ∃ i j : Nat, iv = .int .i64 (i : Int) ∧ jv = .int .i64 (j : Int) ∧ a ≤ i ∧ i ≤ j ∧ j ≤ m ∧ Hid (i = a ∨ ∃ x, X[i - 1 - a]? = some x ∧ key x ≤ key y) ∧ Hid (j = m ∨ ∃ x, X[j - a]? = some x ∧ key y < key x) ∧ Hid (DR wr g LL sp) ∧ Hid (GX g w wr)) (fun iv jv _ => (intOf jv).toNat - (intOf iv).toNat)
  case atStart => exact ⟨a, m, rfl, rfl, Nat.le_refl _, by have := HM.out; omega, Nat.le_refl _, Lib.hid (.inl rfl), Lib.hid (.inl rfl), HD, Lib.hid (GX.refl g w)⟩
  case round =>
    obtain ⟨i, j, rfl, rfl, hmi, hij, hjb, HLO, HHI, HDR, HGX⟩ := hrel
    have hbn : b ≤ n := by have := HN.out; omega
    have hmn : m < n := by have := HMA.out; omega
    by_cases hlt : i < j
    · have m1 : (i : Int) < (j : Int) := by omega
      obtain ⟨h, hmd⟩ : ∃ h, h = (i + j) / 2 := ⟨_, rfl⟩
      have em : ((i : Int) + (j : Int)) / 2 = (h : Int) := by omega
      have HEM := Lib.hid em
      have hmlo : i ≤ h := by omega
      have hmhi : h < j := by omega
      have HMD := Lib.hid hmd
      obtain ⟨x, hx⟩ : ∃ x, X[h - a]? = some x := ⟨_, List.getElem?_eq_getElem (by have := HM.out; omega)⟩
      have HXX := Lib.hid hx
      have HXP : Hid (LL[h]? = some x) := Lib.hid (by have := HXC.out (h - a) x hx; rwa [show a + (h - a) = h by omega] at this)
      have HELX : Hid (El x) := Lib.hid (HEL.out x (List.mem_append_left _ (List.mem_of_getElem? hx)))
      have h0 : (0 : Int) ≤ (h : Int) := Int.natCast_nonneg _
      have h1 : (h : Int) < (n : Int) := by have := HB.out; have := HN.out; omega
      have a0 : (0 : Int) ≤ (m : Int) := Int.natCast_nonneg _
      have a1 : (m : Int) < (n : Int) := by have := HMA.out; have := HN.out; omega
      have wij : IntKind.i64.wrap ((i : Int) + (j : Int)) = (i : Int) + (j : Int) := wraps_i64 _ (by omega) (by omega)
      clear em hmd hx
      go_wp2_with fail
      rw [HEM.out]
      try go_wp2_with fail
      refine wp_region_noPanic ?_
      refine wp_region_held_drew (S := fun u => DR u g LL sp ∧ GX g w u) (by kernel_rfl) ⟨HDR.out, HGX.out.drew⟩ (fun hS0 => ?_)
      have HS0 := Lib.hid hS0
      clear hS0
      refine take_val 0 (.func (.func 14) #[] #[.pointer (some ⟨B, 0, none⟩)]) rfl (by kernel_rfl) (by kernel_rfl) (by kernel_rfl) (fun _ _ _ _ h => h) (by rfl) rfl (fun wz hS => by go_simp) HS0.out ?_
      try simp only [List.set_cons_zero, List.set_cons_succ]
      refine take_val 1 (.slice (some ⟨g, 0, none⟩) n cap) rfl (by kernel_rfl) (by kernel_rfl) (by kernel_rfl) (fun _ _ _ _ h => h) (by rfl) rfl (fun wz hS => by go_simp) HS0.out ?_
      try simp only [List.set_cons_zero, List.set_cons_succ]
      refine take_val 2 (.int .i64 (m : Int)) rfl (by kernel_rfl) (by kernel_rfl) (by kernel_rfl) (fun _ _ _ _ h => h) (by rfl) rfl (fun wz hS => by go_simp) HS0.out ?_
      try simp only [List.set_cons_zero, List.set_cons_succ]
      refine take_val 3 (.pointer (some ⟨g, m, none⟩)) rfl (by kernel_rfl) (by kernel_rfl) (by kernel_rfl) (fun _ _ _ _ h => h) (by rfl) rfl (fun wz hS => by go_simp) HS0.out ?_
      try simp only [List.set_cons_zero, List.set_cons_succ]
      refine take_val 4 (.int .i64 (y : Int)) rfl (by kernel_rfl) (by kernel_rfl) (by kernel_rfl) (fun _ _ _ _ h => h) (by rfl) rfl (fun wz hS => by have hzc := hS.1.cell HXY.out; go_simp) HS0.out ?_
      try simp only [List.set_cons_zero, List.set_cons_succ]
      refine take_val 5 (.slice (some ⟨g, 0, none⟩) n cap) rfl (by kernel_rfl) (by kernel_rfl) (by kernel_rfl) (fun _ _ _ _ h => h) (by rfl) rfl (fun wz hS => by go_simp) HS0.out ?_
      try simp only [List.set_cons_zero, List.set_cons_succ]
      refine take_val 6 (.int .i64 (h : Int)) rfl (by kernel_rfl) (by kernel_rfl) (by kernel_rfl) (fun _ _ _ _ h => h) (by rfl) rfl (fun wz hS => by go_simp) HS0.out ?_
      try simp only [List.set_cons_zero, List.set_cons_succ]
      refine take_val 7 (.pointer (some ⟨g, h, none⟩)) rfl (by kernel_rfl) (by kernel_rfl) (by kernel_rfl) (fun _ _ _ _ h => h) (by rfl) rfl (fun wz hS => by go_simp) HS0.out ?_
      try simp only [List.set_cons_zero, List.set_cons_succ]
      refine take_val 8 (.int .i64 (x : Int)) rfl (by kernel_rfl) (by kernel_rfl) (by kernel_rfl) (fun _ _ _ _ h => h) (by rfl) rfl (fun wz hS => by have hzc := hS.1.cell HXP.out; go_simp) HS0.out ?_
      try simp only [List.set_cons_zero, List.set_cons_succ]
      generalize wr.drew = v0 at *
      refine one_ready 9 (by kernel_rfl) rfl (by rfl) (fun KQ hK => ?_)
      refine wp_call_run (f := 14) (args := #[.int .i64 (y : Int), .int .i64 (x : Int), .pointer (some ⟨B, 0, none⟩)]) (by kernel_rfl) (HC.out y x v0 HELY.out HELX.out HS0.out.2) ?_
      rintro e u1 ⟨⟨rr, rfl, hr⟩, hbu⟩
      refine ⟨_, rfl, ?_⟩
      have HS1 := Lib.hid (show DR u1 g LL sp ∧ GX g w u1 from ⟨HS0.out.1.below hbu, HS0.out.2.step hbu⟩)
      clear hbu
      refine hK.out _ _ HS1.out ?_
      clear hK KQ
      try simp only [Act.put, List.setIfInBounds_toArray]
      try simp only [List.set_cons_zero, List.set_cons_succ]
      by_cases hkey : key y < key x
      · have hr0 : rr < 0 := hr.2 hkey
        have HKEY := Lib.hid hkey
        clear hr hkey
        refine take_val 10 (.bool true) rfl (by kernel_rfl) (by kernel_rfl) (by kernel_rfl) (fun _ _ _ _ h => h) (by rfl) rfl (fun wz hS => by go_simp) HS1.out ?_
        try simp only [List.set_cons_zero, List.set_cons_succ]
        refine take_val 11 (.bool false) rfl (by kernel_rfl) (by kernel_rfl) (by kernel_rfl) (fun _ _ _ _ h => h) (by rfl) rfl (fun wz hS => by go_simp) HS1.out ?_
        try simp only [List.set_cons_zero, List.set_cons_succ]
        refine wpAnyH_done (by kernel_rfl) ?_ _
        refine NoPanic.normal ?_
        have HDR2 : Hid (DR u1 g LL sp) := Lib.hid HS1.out.1
        have HGX2 : Hid (GX g w u1) := Lib.hid HS1.out.2
        clear HS0 HS1 hr0 HDR HGX
        go_wp2_with fail
        go_roundw
        case rel => exact ⟨i, h, rfl, rfl, by omega, by omega, by omega, HLO, Lib.hid (.inr ⟨x, HXX.out, HKEY.out⟩), HDR2, HGX2⟩
        case measure => simp [intOf]; omega
      · have hr0 : ¬ rr < 0 := fun h => hkey (hr.1 h)
        have HKEY := Lib.hid hkey
        clear hr hkey
        refine take_val 10 (.bool false) rfl (by kernel_rfl) (by kernel_rfl) (by kernel_rfl) (fun _ _ _ _ h => h) (by rfl) rfl (fun wz hS => by go_simp) HS1.out ?_
        try simp only [List.set_cons_zero, List.set_cons_succ]
        refine take_val 11 (.bool true) rfl (by kernel_rfl) (by kernel_rfl) (by kernel_rfl) (fun _ _ _ _ h => h) (by rfl) rfl (fun wz hS => by go_simp) HS1.out ?_
        try simp only [List.set_cons_zero, List.set_cons_succ]
        refine wpAnyH_done (by kernel_rfl) ?_ _
        refine NoPanic.normal ?_
        have HDR2 : Hid (DR u1 g LL sp) := Lib.hid HS1.out.1
        have HGX2 : Hid (GX g w u1) := Lib.hid HS1.out.2
        clear HS0 HS1 hr0 HDR HGX
        go_wp2_with fail
        go_roundw
        case rel => exact ⟨h + 1, j, by go_num, rfl, by omega, by omega, by omega, Lib.hid (.inr ⟨x, by rw [show h + 1 - 1 - a = h - a by omega]; exact HXX.out, Int.not_lt.1 HKEY.out⟩), HHI, HDR2, HGX2⟩
        case measure => simp [intOf]; omega
    · have m1 : ¬ (i : Int) < (j : Int) := by omega
      obtain rfl : i = j := by omega
      have hX := HM.out
      have hMA := HMA.out
      have HMG : Hid (Mrg key id X [y] (X.take (i - a) ++ ([y] ++ X.drop (i - a)))) := Lib.hid (ins_right HW.out HXS.out (by omega) (by
        rcases HLO.out with h | ⟨x, h1, h2⟩
        · exact .inl (by omega)
        · rcases Nat.lt_or_ge a i with h3 | h3
          · exact .inr ⟨x, by rw [show i - a - 1 = i - 1 - a by omega]; exact h1, h2⟩
          · exact .inl (by omega)) (by
        rcases HHI.out with h | ⟨x, h1, h2⟩
        · exact .inl (by omega)
        · exact .inr ⟨x, h1, h2⟩))
      have hdr := HDR.out
      rw [← HLQ.out] at hdr
      have HTL : Hid ((X.drop (i - a)).length = m - i) := Lib.hid (by rw [List.length_drop]; omega)
      have HTK : Hid ((X.take (i - a)).length = i - a) := Lib.hid (by rw [List.length_take]; omega)
      have HDR1 : Hid (DR wr g (A ++ ((X.take (i - a) ++ (X.drop (i - a) ++ [y])) ++ C)) sp) := Lib.hid (by rw [← List.append_assoc (X.take (i - a)), List.take_append_drop]; exact hdr)
      have HBN := Lib.hid hmn
      clear hdr HDR hX hMA hbn hmn HLO HHI
      generalize X.take (i - a) = X1 at *
      generalize X.drop (i - a) = X2 at *
      obtain ⟨wo, rfl⟩ : ∃ wo : World, wo = wr := ⟨_, rfl⟩
      go_wp2_with fail
      go_loopw [17] (fun kv wr => ∃ (q : Nat) (Xa Xb : List Nat), kv = .int .i64 (q : Int) ∧ Hid (q = i + Xa.length) ∧ Hid (Xa ++ Xb = X2) ∧ Hid (DR wr g (A ++ ((X1 ++ (Xa ++ (y :: Xb))) ++ C)) sp) ∧ Hid (GX g w wr)) (fun kv _ => (intOf kv).toNat)
      case atStart => exact ⟨m, X2, [], rfl, Lib.hid (by have := HTL.out; omega), Lib.hid (by rw [List.append_nil]), HDR1, HGX⟩
      case round =>
        clear HDR1 HGX
        obtain ⟨q, Xa, Xb, rfl, HP, HYY, HDR, HGX⟩ := hrel
        have hp := HP.out
        have hyy : Xa.length + Xb.length = m - i := by rw [← HTL.out, ← HYY.out, List.length_append]
        rcases List.eq_nil_or_concat Xa with hxa | ⟨Xc, x, hxa⟩
        · subst hxa
          have m2 : ¬ (i : Int) < (q : Int) := by simp at hp; omega
          have HFN : Hid (DR wr g (A ++ ((X1 ++ ([y] ++ X2)) ++ C)) sp) := Lib.hid (by have := HDR.out; have e := HYY.out; rw [List.nil_append] at e; rw [e] at this; simpa using this)
          clear hp hyy
          go_wp2_with fail
          refine bodyPost_ret (results_none rfl _ _ _) rfl ?_
          exact ⟨rfl, _, HMG.out, HFN.out, HGX.out⟩
        · rw [List.concat_eq_append] at hxa
          subst hxa
          rw [List.length_append, List.length_singleton] at hp hyy
          obtain ⟨p, hq⟩ : ∃ p, p = i + Xc.length := ⟨_, rfl⟩
          have hqp : q = p + 1 := by omega
          have hbn := HBN.out
          have m2 : (i : Int) < (q : Int) := by omega
          have HE : Hid (A ++ ((X1 ++ ((Xc ++ [x]) ++ (y :: Xb))) ++ C) = (A ++ X1 ++ Xc) ++ x :: y :: (Xb ++ C)) := Lib.hid (by simp)
          have HC0 : Hid (p = (A ++ X1 ++ Xc).length) := Lib.hid (by rw [List.length_append, List.length_append, HA.out, HTK.out]; omega)
          have hdr := HDR.out
          rw [HE.out] at hdr
          have HN2 : Hid (((A ++ X1 ++ Xc) ++ x :: y :: (Xb ++ C)).length = n) := Lib.hid (by
            have h1 := HN.out
            have h2 := HA.out
            have h3 := HTK.out
            have h6 := HMA.out
            simp only [List.length_append, List.length_cons]
            omega)
          have HXP : Hid (((A ++ X1 ++ Xc) ++ x :: y :: (Xb ++ C))[p]? = some x) := Lib.hid (by rw [HC0.out]; exact (at_mid _ _ _ _).1)
          have HXQ : Hid (((A ++ X1 ++ Xc) ++ x :: y :: (Xb ++ C))[q]? = some y) := Lib.hid (by rw [hqp, HC0.out]; exact (at_mid _ _ _ _).2)
          have HSET : Hid (((((A ++ X1 ++ Xc) ++ x :: y :: (Xb ++ C)).set q x).set p y) = A ++ ((X1 ++ (Xc ++ (y :: (x :: Xb)))) ++ C)) := Lib.hid (by rw [hqp, swap_two HC0.out]; simp)
          generalize ((A ++ X1 ++ Xc) ++ x :: y :: (Xb ++ C)) = L3 at *
          have HLL := HN2
          have hqn : q < n := by omega
          have hpn : p < n := by omega
          have hne : ¬ q = p := by omega
          have q1 : (q : Int) < (n : Int) := by omega
          have p1 : (p : Int) < (n : Int) := by omega
          have q0 : (0 : Int) ≤ (q : Int) := Int.natCast_nonneg _
          have p0 : (0 : Int) ≤ (p : Int) := Int.natCast_nonneg _
          have w2 : IntKind.i64.wrap ((q : Int) - 1) = (p : Int) := by rw [wraps_i64 _ (by omega) (by omega)]; omega
          have HD3 : Hid (DR wr.drew g L3 sp) := Lib.hid hdr
          have HG3 := Lib.hid HGX.out.drew
          have cp := HD3.out.cell HXP.out
          have cq := HD3.out.cell HXQ.out
          have fq := HD3.out.frozen q
          have hd4 := HD3.out.set q x (by have := HLL.out; omega)
          have cp2 := hd4.cell (p := p) (x := x) (by rw [List.getElem?_set_ne (by omega)]; exact HXP.out)
          have fp2 := hd4.frozen p
          have HD5 := Lib.hid (hd4.set p y (by rw [List.length_set]; have := HLL.out; omega))
          have HG5 := Lib.hid ((HG3.out.set q (.int .i64 (x : Int))).set p (.int .i64 (y : Int)))
          have HQ := Lib.hid hq
          have HQP := Lib.hid hqp
          clear hd4 HD3 HG3 hdr HE HC0 hp hyy hq HN2 HLL hbn hqp
          go_wp2_with fail
          refine wp_region_any (by kernel_rfl) ?_
          have hw3 : ({ heap := wr.heap, tape := wr.tape, drawn := wr.drawn + 1, os := wr.os, output := wr.output } : World) = wr.drew := rfl
          rw [hw3]
          clear hw3
          generalize wr.drew = w3 at *
          refine wpAny_take (i := 0) (v := .slice (some ⟨g, 0, none⟩) n cap) rfl (by kernel_rfl) (by kernel_rfl) (by kernel_rfl) (fun _ _ _ h => h) (Or.inl ⟨by rfl, fun wz => by go_simp⟩) ?_
          refine wpAny_take (i := 1) (v := .int .i64 (q : Int)) rfl (by kernel_rfl) (by kernel_rfl) (by kernel_rfl) (fun _ _ _ h => h) (Or.inl ⟨by rfl, fun wz => by go_simp⟩) ?_
          refine wpAny_take (i := 2) (v := .slice (some ⟨g, 0, none⟩) n cap) rfl (by kernel_rfl) (by kernel_rfl) (by kernel_rfl) (fun _ _ _ h => h) (Or.inl ⟨by rfl, fun wz => by go_simp⟩) ?_
          refine wpAny_take (i := 3) (v := .int .i64 (q : Int)) rfl (by kernel_rfl) (by kernel_rfl) (by kernel_rfl) (fun _ _ _ h => h) (Or.inl ⟨by rfl, fun wz => by go_simp⟩) ?_
          refine wpAny_take (i := 4) (v := .int .i64 (p : Int)) rfl (by kernel_rfl) (by kernel_rfl) (by kernel_rfl) (fun _ _ _ h => h) (Or.inl ⟨by rfl, fun wz => by go_simp⟩) ?_
          refine wpAny_head [5, 6, 7, 8, 9, 10, 11, 12, 13] (fun L => (L.take 14).drop 5) 4 (fun _ => True) rfl (by kernel_rfl) (by kernel_rfl) (by kernel_rfl) (by kernel_rfl) (by kernel_rfl) rfl ?_
          simp only [List.take_succ_cons, List.take_zero, List.drop_succ_cons, List.drop_zero, List.cons_append, List.nil_append]
          repeat still_step
          refine wpStill_nil ?_
          refine take_val 14 (.pointer (some ⟨g, q, none⟩)) rfl (by kernel_rfl) (by kernel_rfl) (by kernel_rfl) (fun _ _ _ _ h => h) (by rfl) rfl (fun wz hS => by go_simp) trivial ?_
          try simp only [List.set_cons_zero, List.set_cons_succ]
          refine one_ready 15 (by kernel_rfl) rfl (by rfl) (fun K hK => ?_)
          refine wp_store_1 3 _ _ rfl g q (.int .i64 (x : Int)) rfl rfl rfl (by rw [cq]; rfl) fq (by kernel_rfl) rfl ?_
          refine hK.out _ _ trivial ?_
          simp only [Act.put]
          clear hK K
          refine take_val 16 (.pointer (some ⟨g, p, none⟩)) rfl (by kernel_rfl) (by kernel_rfl) (by kernel_rfl) (fun _ _ _ _ h => h) (by rfl) rfl (fun wz hS => by go_simp) trivial ?_
          try simp only [List.set_cons_zero, List.set_cons_succ]
          refine one_ready 17 (by kernel_rfl) rfl (by rfl) (fun K hK => ?_)
          refine wp_store_1 3 _ _ rfl g p (.int .i64 (y : Int)) rfl rfl rfl (by rw [cp2]; rfl) fp2 (by kernel_rfl) rfl ?_
          refine hK.out _ _ trivial ?_
          simp only [Act.put]
          clear hK K
          refine wpAnyH_done (by kernel_rfl) ?_ _
          simp only [Exit.inBlock, Exit.then]
          rename_i HKK
          refine HKK _ _ ?_
          clear HKK
          go_wp2_with fail
          go_roundw
          case rel => exact ⟨p, Xc, x :: Xb, rfl, HQ, Lib.hid (by rw [← HYY.out]; simp), Lib.hid (by rw [← HSET.out]; exact HD5.out), HG5⟩
          case measure => simp [intOf]; have := HQP.out; omega
end Go.Proofs.Ytpfmfigommmjiaa
