/- The walk of slices' insertion sort over ints. Printed by wip/gen_stable.py. -/
import Derived.Test.YtpfmfigommmjiaaStableMem
namespace Go.Proofs.Ytpfmfigommmjiaa
open Go.RowKit Plain
set_option linter.unusedVariables false
set_option linter.unusedSimpArgs false
set_option maxRecDepth 100000 in
set_option maxHeartbeats 4000000 in
theorem insertion_any (key : Nat → Int) (El : Nat → Prop) (g n cap a b B : Nat) (A M C : List Nat) (sp : List Value) (w : World) (hc : ∀ (x y : Nat) (u : World), El x → El y → GX g w u → Calls Try.prog 14 #[.int .i64 (x : Int), .int .i64 (y : Int), .pointer (some ⟨B, 0, none⟩)] u fun e u' => (∃ r : Int, e = .returned (.int .i64 r) ∧ (r < 0 ↔ key x < key y)) ∧ Below u.heap.size u u') (hel : ∀ x ∈ M, El x) (hd : DR w g (A ++ (M ++ C)) sp) (hn : (A ++ (M ++ C)).length = n) (hs : n ≤ 1000000) (ha : A.length = a) (hb : a + M.length = b) (hw : M.Pairwise (WPr key id)) :
    Calls Try.prog 20 #[.slice (some ⟨g, 0, none⟩) n cap, .int .i64 (a : Int), .int .i64 (b : Int), .func (.func 14) #[] #[.pointer (some ⟨B, 0, none⟩)]] w fun e w' => e = .returned (.tuple #[]) ∧ ∃ Z, Ins key id M Z ∧ Z.Pairwise (SPr key) ∧ DR w' g (A ++ (Z ++ C)) sp ∧ GX g w w' := by
  have HC := Lib.hid hc
  have HEL := Lib.hid hel
  have HD := Lib.hid hd
  have HN : Hid (a + M.length + C.length = n) := Lib.hid (by rw [← hn, ← ha]; simp only [List.length_append]; omega)
  have HA := Lib.hid ha
  have HB := Lib.hid hb
  have HW := Lib.hid hw
  have hbn : b ≤ n := by have := HN.out; omega
  have w0 : IntKind.i64.wrap ((a : Int) + 1) = ((a + 1 : Nat) : Int) := by rw [wraps_i64 _ (by omega) (by omega)]; omega
  clear hc hel hd hn ha hb hw
  go_enter Try.func20, Try.ntmps20
  go_wp2_with fail
  clear w0
  go_loopw [8] (fun iv wr => ∃ (i : Nat) (P R : List Nat), iv = .int .i64 (i : Int) ∧ a + P.length ≤ i ∧ i ≤ b + 1 ∧ Hid (R ≠ [] → i = a + P.length) ∧ Hid (Ins key id M (P ++ R)) ∧ Hid (P.Pairwise (SPr key)) ∧ Hid (DR wr g (A ++ ((P ++ R) ++ C)) sp) ∧ Hid (GX g w wr)) (fun iv _ => b + 1 - (intOf iv).toNat)
  case atStart =>
    have hb := HB.out
    cases hm : M with
    | nil => exact ⟨a + 1, [], [], by go_num, by simp, by omega, Lib.hid (fun h => absurd rfl h), Lib.hid ⟨.refl _, List.Pairwise.nil⟩, Lib.hid List.Pairwise.nil, Lib.hid (by have := HD.out; rwa [hm] at this), Lib.hid (GX.refl g w)⟩
    | cons x R => exact ⟨a + 1, [x], R, by go_num, by simp, by rw [hm] at hb; simp at hb; omega, Lib.hid (fun _ => by simp), Lib.hid ⟨.refl _, by have := HW.out; rwa [hm] at this⟩, Lib.hid (List.pairwise_singleton _ _), Lib.hid (by have := HD.out; rwa [hm] at this), Lib.hid (GX.refl g w)⟩
  case round =>
    obtain ⟨i, P, R, rfl, hpi, hib, HRI, HIN, HSP, HDO, HGO⟩ := hrel
    have hlen : P.length + R.length = M.length := by have := HIN.out.perm.length_eq; rwa [List.length_append] at this
    have hab : a + M.length = b := HB.out
    by_cases hlt : i < b
    · have m1 : (i : Int) < (b : Int) := by omega
      obtain ⟨x, R', hR⟩ : ∃ x R', R = x :: R' := by
        cases hr : R with
        | nil => rw [hr] at hlen; simp at hlen; omega
        | cons x R' => exact ⟨x, R', rfl⟩
      subst hR
      have hi : i = a + P.length := HRI.out (by simp)
      have HELX : Hid (El x) := Lib.hid (HEL.out x (HIN.out.perm.mem_iff.1 (by simp)))
      have HI := Lib.hid hi
      have HLEN := Lib.hid hlen
      have HIS := Lib.hid (InsIn.start HIN.out HSP.out)
      clear HRI HIN HSP hi hlen
      obtain ⟨wo, rfl⟩ : ∃ wo : World, wo = wr := ⟨_, rfl⟩
      go_wp2_with fail
      go_loopw [9] (fun jv wr => ∃ (j : Nat) (P1 P2 : List Nat), jv = .int .i64 (j : Int) ∧ Hid (j = a + P1.length) ∧ Hid (P1.length + P2.length = P.length) ∧ Hid (InsIn key id M P1 x P2 R') ∧ Hid (DR wr g (A ++ ((P1 ++ (x :: (P2 ++ R'))) ++ C)) sp) ∧ Hid (GX g w wr)) (fun jv _ => (intOf jv).toNat)
      case atStart => exact ⟨i, P, [], rfl, HI, Lib.hid (by simp), HIS, Lib.hid (by have := HDO.out; rwa [List.nil_append]), HGO⟩
      case round =>
        clear HIS HDO HGO
        obtain ⟨j, P1, P2, rfl, HJ, HPL, HII, HDR, HGX⟩ := hrel
        have hj := HJ.out
        have hpl := HPL.out
        have hln := HLEN.out
        have hii := HI.out
        simp only [List.length_cons] at hln
        by_cases hja : a < j
        · obtain ⟨Q, px, hP1⟩ : ∃ Q px, P1 = Q ++ [px] := by
            rcases List.eq_nil_or_concat P1 with h | ⟨Q, px, h⟩
            · rw [h] at hj; simp at hj; omega
            · exact ⟨Q, px, by rw [h, List.concat_eq_append]⟩
          subst hP1
          rw [List.length_append, List.length_singleton] at hj hpl
          obtain ⟨p, hp⟩ : ∃ p, p = a + Q.length := ⟨_, rfl⟩
          obtain ⟨q, hq⟩ : ∃ q, q = j := ⟨_, rfl⟩
          have hqp : q = p + 1 := by omega
          have HE : Hid (A ++ (((Q ++ [px]) ++ (x :: (P2 ++ R'))) ++ C) = (A ++ Q) ++ px :: x :: (P2 ++ R' ++ C)) := Lib.hid (by simp)
          have HC0 : Hid (p = (A ++ Q).length) := Lib.hid (by rw [List.length_append, HA.out]; exact hp)
          have hdr := HDR.out
          rw [HE.out] at hdr
          have HN2 : Hid (((A ++ Q) ++ px :: x :: (P2 ++ R' ++ C)).length = n) := Lib.hid (by have := HN.out; have := HA.out; have := HB.out; simp only [List.length_append, List.length_cons]; omega)
          have HXP : Hid (((A ++ Q) ++ px :: x :: (P2 ++ R' ++ C))[p]? = some px) := Lib.hid (by rw [HC0.out]; exact (at_mid _ _ _ _).1)
          have HXQ : Hid (((A ++ Q) ++ px :: x :: (P2 ++ R' ++ C))[q]? = some x) := Lib.hid (by rw [hqp, HC0.out]; exact (at_mid _ _ _ _).2)
          have HSET : Hid (((((A ++ Q) ++ px :: x :: (P2 ++ R' ++ C)).set q px).set p x) = A ++ ((Q ++ (x :: ((px :: P2) ++ R'))) ++ C)) := Lib.hid (by rw [hqp, swap_two HC0.out]; simp)
          have HEQ : Hid (((A ++ Q) ++ px :: x :: (P2 ++ R' ++ C)) = A ++ ((((Q ++ [px]) ++ (x :: P2)) ++ R') ++ C)) := Lib.hid (by simp)
          generalize ((A ++ Q) ++ px :: x :: (P2 ++ R' ++ C)) = LL at *
          have HLL := HN2
          replace HDR := Lib.hid hdr
          have HELP : Hid (El px) := Lib.hid (HEL.out px (HII.out.ok.perm.mem_iff.1 (by simp)))
          rw [← hq] at hja ⊢
          have ma : (a : Int) < (q : Int) := by omega
          have q0 : (0 : Int) ≤ (q : Int) := Int.natCast_nonneg _
          have p0 : (0 : Int) ≤ (p : Int) := Int.natCast_nonneg _
          have qn : (q : Int) < (n : Int) := by have := HN.out; omega
          have pn : (p : Int) < (n : Int) := by omega
          have w1 : IntKind.i64.wrap ((q : Int) - 1) = (p : Int) := by rw [wraps_i64 _ (by omega) (by omega)]; omega
          have HPP := Lib.hid hp
          have hqn : q < n := by omega
          have hpn : p < n := by omega
          have hne : ¬ q = p := by omega
          have hne2 : p < q := by omega
          clear hdr HE HC0 HN2 hp hq hj hpl hln hii hqp
          go_wp2_with fail
          refine wp_region_noPanic ?_
          refine wp_region_held_drew (S := fun u => DR u g LL sp ∧ GX g w u) (by kernel_rfl) ⟨HDR.out, HGX.out.drew⟩ (fun hS0 => ?_)
          have HS0 := Lib.hid hS0
          clear hS0
          refine take_val 0 (.int .i64 (q : Int)) rfl (by kernel_rfl) (by kernel_rfl) (by kernel_rfl) (fun _ _ _ _ h => h) (by rfl) rfl (fun wz hS => by go_simp) HS0.out ?_
          try simp only [List.set_cons_zero, List.set_cons_succ]
          refine take_val 1 (.int .i64 (a : Int)) rfl (by kernel_rfl) (by kernel_rfl) (by kernel_rfl) (fun _ _ _ _ h => h) (by rfl) rfl (fun wz hS => by go_simp) HS0.out ?_
          try simp only [List.set_cons_zero, List.set_cons_succ]
          refine take_val 2 (.bool true) rfl (by kernel_rfl) (by kernel_rfl) (by kernel_rfl) (fun _ _ _ _ h => h) (by rfl) rfl (fun wz hS => by go_simp) HS0.out ?_
          try simp only [List.set_cons_zero, List.set_cons_succ]
          refine take_val 3 (.bool true) rfl (by kernel_rfl) (by kernel_rfl) (by kernel_rfl) (fun _ _ _ _ h => h) (by rfl) rfl (fun wz hS => by go_simp) HS0.out ?_
          try simp only [List.set_cons_zero, List.set_cons_succ]
          refine take_val 4 (.func (.func 14) #[] #[.pointer (some ⟨B, 0, none⟩)]) rfl (by kernel_rfl) (by kernel_rfl) (by kernel_rfl) (fun _ _ _ _ h => h) (by rfl) rfl (fun wz hS => by go_simp) HS0.out ?_
          try simp only [List.set_cons_zero, List.set_cons_succ]
          refine take_val 5 (.slice (some ⟨g, 0, none⟩) n cap) rfl (by kernel_rfl) (by kernel_rfl) (by kernel_rfl) (fun _ _ _ _ h => h) (by rfl) rfl (fun wz hS => by go_simp) HS0.out ?_
          try simp only [List.set_cons_zero, List.set_cons_succ]
          refine take_val 6 (.int .i64 (q : Int)) rfl (by kernel_rfl) (by kernel_rfl) (by kernel_rfl) (fun _ _ _ _ h => h) (by rfl) rfl (fun wz hS => by go_simp) HS0.out ?_
          try simp only [List.set_cons_zero, List.set_cons_succ]
          refine take_val 7 (.pointer (some ⟨g, q, none⟩)) rfl (by kernel_rfl) (by kernel_rfl) (by kernel_rfl) (fun _ _ _ _ h => h) (by rfl) rfl (fun wz hS => by go_simp) HS0.out ?_
          try simp only [List.set_cons_zero, List.set_cons_succ]
          refine take_val 8 (.int .i64 (x : Int)) rfl (by kernel_rfl) (by kernel_rfl) (by kernel_rfl) (fun _ _ _ _ h => h) (by rfl) rfl (fun wz hS => by have hzc := hS.1.cell HXQ.out; go_simp) HS0.out ?_
          try simp only [List.set_cons_zero, List.set_cons_succ]
          refine take_val 9 (.slice (some ⟨g, 0, none⟩) n cap) rfl (by kernel_rfl) (by kernel_rfl) (by kernel_rfl) (fun _ _ _ _ h => h) (by rfl) rfl (fun wz hS => by go_simp) HS0.out ?_
          try simp only [List.set_cons_zero, List.set_cons_succ]
          refine take_val 10 (.int .i64 (q : Int)) rfl (by kernel_rfl) (by kernel_rfl) (by kernel_rfl) (fun _ _ _ _ h => h) (by rfl) rfl (fun wz hS => by go_simp) HS0.out ?_
          try simp only [List.set_cons_zero, List.set_cons_succ]
          refine take_val 11 (.int .i64 (p : Int)) rfl (by kernel_rfl) (by kernel_rfl) (by kernel_rfl) (fun _ _ _ _ h => h) (by rfl) rfl (fun wz hS => by go_simp) HS0.out ?_
          try simp only [List.set_cons_zero, List.set_cons_succ]
          refine take_val 12 (.pointer (some ⟨g, p, none⟩)) rfl (by kernel_rfl) (by kernel_rfl) (by kernel_rfl) (fun _ _ _ _ h => h) (by rfl) rfl (fun wz hS => by go_simp) HS0.out ?_
          try simp only [List.set_cons_zero, List.set_cons_succ]
          refine take_val 13 (.int .i64 (px : Int)) rfl (by kernel_rfl) (by kernel_rfl) (by kernel_rfl) (fun _ _ _ _ h => h) (by rfl) rfl (fun wz hS => by have hzc := hS.1.cell HXP.out; go_simp) HS0.out ?_
          try simp only [List.set_cons_zero, List.set_cons_succ]
          generalize wr.drew = v0 at *
          refine one_ready 14 (by kernel_rfl) rfl (by rfl) (fun KQ hK => ?_)
          refine wp_call_run (f := 14) (args := #[.int .i64 (x : Int), .int .i64 (px : Int), .pointer (some ⟨B, 0, none⟩)]) (by kernel_rfl) (HC.out x px v0 HELX.out HELP.out HS0.out.2) ?_
          rintro e u1 ⟨⟨rr, rfl, hr⟩, hbu⟩
          refine ⟨_, rfl, ?_⟩
          have HS1 := Lib.hid (show DR u1 g LL sp ∧ GX g w u1 from ⟨HS0.out.1.below hbu, HS0.out.2.step hbu⟩)
          clear hbu
          refine hK.out _ _ HS1.out ?_
          clear hK KQ
          try simp only [Act.put, List.setIfInBounds_toArray]
          try simp only [List.set_cons_zero, List.set_cons_succ]
          by_cases hkey : key x < key px
          · have hr0 : rr < 0 := hr.2 hkey
            have HKEY := Lib.hid hkey
            clear hr hkey
            refine take_val 15 (.bool true) rfl (by kernel_rfl) (by kernel_rfl) (by kernel_rfl) (fun _ _ _ _ h => h) (by rfl) rfl (fun wz hS => by go_simp) HS1.out ?_
            try simp only [List.set_cons_zero, List.set_cons_succ]
            refine take_val 16 (.bool true) rfl (by kernel_rfl) (by kernel_rfl) (by kernel_rfl) (fun _ _ _ _ h => h) (by rfl) rfl (fun wz hS => by go_simp) HS1.out ?_
            try simp only [List.set_cons_zero, List.set_cons_succ]
            refine wpAnyH_done (by kernel_rfl) ?_ _
            refine NoPanic.normal ?_
            have HDR2 : Hid (DR u1 g LL sp) := Lib.hid HS1.out.1
            have HGX2 : Hid (GX g w u1) := Lib.hid HS1.out.2
            clear HS0 HS1 hr0 HDR HGX
            go_wp2_with fail
            have HD3 : Hid (DR u1.drew g LL sp) := HDR2
            have HG3 := Lib.hid HGX2.out.drew
            have cp := HD3.out.cell HXP.out
            have cq := HD3.out.cell HXQ.out
            have fq := HD3.out.frozen q
            have hd4 := HD3.out.set q px (by have := HLL.out; omega)
            have cp2 := hd4.cell (p := p) (x := px) (by rw [List.getElem?_set_ne (by omega)]; exact HXP.out)
            have fp2 := hd4.frozen p
            have HD5 := Lib.hid (hd4.set p x (by rw [List.length_set]; have := HLL.out; omega))
            have HG5 := Lib.hid ((HG3.out.set q (.int .i64 (px : Int))).set p (.int .i64 (x : Int)))
            clear hd4 HD3 HG3 HDR2 HGX2
            refine wp_region_any (by kernel_rfl) ?_
            have hw3 : ({ heap := u1.heap, tape := u1.tape, drawn := u1.drawn + 1, os := u1.os, output := u1.output } : World) = u1.drew := rfl
            rw [hw3]
            clear hw3
            generalize u1.drew = w3 at *
            refine wpAny_take (i := 0) (v := .slice (some ⟨g, 0, none⟩) n cap) rfl (by kernel_rfl) (by kernel_rfl) (by kernel_rfl) (fun _ _ _ h => h) (Or.inl ⟨by rfl, fun wz => by go_simp⟩) ?_
            refine wpAny_take (i := 1) (v := .int .i64 (q : Int)) rfl (by kernel_rfl) (by kernel_rfl) (by kernel_rfl) (fun _ _ _ h => h) (Or.inl ⟨by rfl, fun wz => by go_simp⟩) ?_
            refine wpAny_take (i := 2) (v := .slice (some ⟨g, 0, none⟩) n cap) rfl (by kernel_rfl) (by kernel_rfl) (by kernel_rfl) (fun _ _ _ h => h) (Or.inl ⟨by rfl, fun wz => by go_simp⟩) ?_
            refine wpAny_take (i := 3) (v := .int .i64 (q : Int)) rfl (by kernel_rfl) (by kernel_rfl) (by kernel_rfl) (fun _ _ _ h => h) (Or.inl ⟨by rfl, fun wz => by go_simp⟩) ?_
            refine wpAny_take (i := 4) (v := .int .i64 (p : Int)) rfl (by kernel_rfl) (by kernel_rfl) (by kernel_rfl) (fun _ _ _ h => h) (Or.inl ⟨by rfl, fun wz => by go_simp⟩) ?_
            refine wpAny_head [5, 6, 7, 8, 9, 10, 11, 12, 13] (fun L => (L.take 14).drop 5) 4 (fun _ => True) rfl (by kernel_rfl) (by kernel_rfl) (by kernel_rfl) (by kernel_rfl) (by kernel_rfl) rfl ?_
            simp only [List.take_succ_cons, List.take_zero, List.drop_succ_cons, List.drop_zero, List.cons_append, List.nil_append]
            repeat still_step
            refine wpStill_nil ?_
            refine take_val 14 (.pointer (some ⟨g, q, none⟩)) rfl (by kernel_rfl) (by kernel_rfl) (by kernel_rfl) (fun _ _ _ _ h => h) (by rfl) rfl (fun wz hS => by go_simp) trivial ?_
            try simp only [List.set_cons_zero, List.set_cons_succ]
            refine one_ready 15 (by kernel_rfl) rfl (by rfl) (fun K hK => ?_)
            refine wp_store_1 3 _ _ rfl g q (.int .i64 (px : Int)) rfl rfl rfl (by rw [cq]; rfl) fq (by kernel_rfl) rfl ?_
            refine hK.out _ _ trivial ?_
            simp only [Act.put]
            clear hK K
            refine take_val 16 (.pointer (some ⟨g, p, none⟩)) rfl (by kernel_rfl) (by kernel_rfl) (by kernel_rfl) (fun _ _ _ _ h => h) (by rfl) rfl (fun wz hS => by go_simp) trivial ?_
            try simp only [List.set_cons_zero, List.set_cons_succ]
            refine one_ready 17 (by kernel_rfl) rfl (by rfl) (fun K hK => ?_)
            refine wp_store_1 3 _ _ rfl g p (.int .i64 (x : Int)) rfl rfl rfl (by rw [cp2]; rfl) fp2 (by kernel_rfl) rfl ?_
            refine hK.out _ _ trivial ?_
            simp only [Act.put]
            clear hK K
            refine wpAnyH_done (by kernel_rfl) ?_ _
            simp only [Exit.inBlock, Exit.then]
            rename_i HKK
            refine HKK _ _ ?_
            clear HKK
            go_wp2_with fail
            go_roundw
            case rel => exact ⟨p, Q, px :: P2, rfl, HPP, Lib.hid (by have := HPL.out; simp only [List.length_append, List.length_cons, List.length_nil] at this ⊢; omega), Lib.hid (HII.out.step HKEY.out), Lib.hid (by rw [← HSET.out]; exact HD5.out), HG5⟩
            case measure => simp [intOf]; omega
          · have hr0 : ¬ rr < 0 := fun h => hkey (hr.1 h)
            have HKEY := Lib.hid hkey
            clear hr hkey
            refine take_val 15 (.bool false) rfl (by kernel_rfl) (by kernel_rfl) (by kernel_rfl) (fun _ _ _ _ h => h) (by rfl) rfl (fun wz hS => by go_simp) HS1.out ?_
            try simp only [List.set_cons_zero, List.set_cons_succ]
            refine take_val 16 (.bool false) rfl (by kernel_rfl) (by kernel_rfl) (by kernel_rfl) (fun _ _ _ _ h => h) (by rfl) rfl (fun wz hS => by go_simp) HS1.out ?_
            try simp only [List.set_cons_zero, List.set_cons_succ]
            refine wpAnyH_done (by kernel_rfl) ?_ _
            refine NoPanic.normal ?_
            have HDR2 : Hid (DR u1 g LL sp) := Lib.hid HS1.out.1
            have HGX2 : Hid (GX g w u1) := Lib.hid HS1.out.2
            clear HS0 HS1 hr0 HDR HGX
            have HST := Lib.hid (HII.out.stop (fun Q2 p2 h => by
              have h2 := List.append_inj' h rfl
              obtain ⟨_, h3⟩ := h2
              injection h3 with h3
              subst h3
              exact Int.not_lt.1 HKEY.out))
            go_wp2_with fail
            go_roundw
            case rel => exact ⟨i + 1, _, R', by go_num, by have h1 := HPL.out; have h2 := HI.out; simp only [List.length_append, List.length_cons, List.length_nil] at h1 ⊢; omega, by omega, Lib.hid (fun _ => by have h1 := HPL.out; have h2 := HI.out; simp only [List.length_append, List.length_cons, List.length_nil] at h1 ⊢; omega), Lib.hid HST.out.1, Lib.hid HST.out.2, Lib.hid (by rw [← HEQ.out]; exact HDR2.out), HGX2⟩
            case measure => simp [intOf]; omega
        · have hP1 : P1 = [] := List.eq_nil_of_length_eq_zero (by omega)
          subst hP1
          have ma : ¬ (a : Int) < (j : Int) := by omega
          have HST := Lib.hid (HII.out.stop (fun Q p h => by simp at h))
          obtain ⟨LL, hLL⟩ : ∃ LL, A ++ (([] ++ (x :: (P2 ++ R'))) ++ C) = LL := ⟨_, rfl⟩
          have hdr := HDR.out
          rw [hLL] at hdr
          replace HDR := Lib.hid hdr
          have HLL := Lib.hid hLL
          clear hdr hLL hj hpl hln hii
          go_wp2_with fail
          refine wp_region_noPanic ?_
          refine wp_region_held_drew (S := fun u => DR u g LL sp ∧ GX g w u) (by kernel_rfl) ⟨HDR.out, HGX.out.drew⟩ (fun hS0 => ?_)
          have HS0 := Lib.hid hS0
          clear hS0
          refine take_val 0 (.int .i64 (j : Int)) rfl (by kernel_rfl) (by kernel_rfl) (by kernel_rfl) (fun _ _ _ _ h => h) (by rfl) rfl (fun wz hS => by go_simp) HS0.out ?_
          try simp only [List.set_cons_zero, List.set_cons_succ]
          refine take_val 1 (.int .i64 (a : Int)) rfl (by kernel_rfl) (by kernel_rfl) (by kernel_rfl) (fun _ _ _ _ h => h) (by rfl) rfl (fun wz hS => by go_simp) HS0.out ?_
          try simp only [List.set_cons_zero, List.set_cons_succ]
          refine take_val 2 (.bool false) rfl (by kernel_rfl) (by kernel_rfl) (by kernel_rfl) (fun _ _ _ _ h => h) (by rfl) rfl (fun wz hS => by go_simp) HS0.out ?_
          try simp only [List.set_cons_zero, List.set_cons_succ]
          refine take_val 3 (.bool false) rfl (by kernel_rfl) (by kernel_rfl) (by kernel_rfl) (fun _ _ _ _ h => h) (by rfl) rfl (fun wz hS => by go_simp) HS0.out ?_
          try simp only [List.set_cons_zero, List.set_cons_succ]
          refine take_not 4 rfl (by kernel_rfl) (by kernel_rfl) (by kernel_rfl) (fun _ _ _ _ h => h) (by rfl) rfl HS0.out ?_
          try simp only [List.set_cons_zero, List.set_cons_succ]
          refine take_not 5 rfl (by kernel_rfl) (by kernel_rfl) (by kernel_rfl) (fun _ _ _ _ h => h) (by rfl) rfl HS0.out ?_
          try simp only [List.set_cons_zero, List.set_cons_succ]
          refine take_not 6 rfl (by kernel_rfl) (by kernel_rfl) (by kernel_rfl) (fun _ _ _ _ h => h) (by rfl) rfl HS0.out ?_
          try simp only [List.set_cons_zero, List.set_cons_succ]
          refine take_not 7 rfl (by kernel_rfl) (by kernel_rfl) (by kernel_rfl) (fun _ _ _ _ h => h) (by rfl) rfl HS0.out ?_
          try simp only [List.set_cons_zero, List.set_cons_succ]
          refine take_not 8 rfl (by kernel_rfl) (by kernel_rfl) (by kernel_rfl) (fun _ _ _ _ h => h) (by rfl) rfl HS0.out ?_
          try simp only [List.set_cons_zero, List.set_cons_succ]
          refine take_not 9 rfl (by kernel_rfl) (by kernel_rfl) (by kernel_rfl) (fun _ _ _ _ h => h) (by rfl) rfl HS0.out ?_
          try simp only [List.set_cons_zero, List.set_cons_succ]
          refine take_not 10 rfl (by kernel_rfl) (by kernel_rfl) (by kernel_rfl) (fun _ _ _ _ h => h) (by rfl) rfl HS0.out ?_
          try simp only [List.set_cons_zero, List.set_cons_succ]
          refine take_not 11 rfl (by kernel_rfl) (by kernel_rfl) (by kernel_rfl) (fun _ _ _ _ h => h) (by rfl) rfl HS0.out ?_
          try simp only [List.set_cons_zero, List.set_cons_succ]
          refine take_not 12 rfl (by kernel_rfl) (by kernel_rfl) (by kernel_rfl) (fun _ _ _ _ h => h) (by rfl) rfl HS0.out ?_
          try simp only [List.set_cons_zero, List.set_cons_succ]
          refine take_not 13 rfl (by kernel_rfl) (by kernel_rfl) (by kernel_rfl) (fun _ _ _ _ h => h) (by rfl) rfl HS0.out ?_
          try simp only [List.set_cons_zero, List.set_cons_succ]
          refine take_not 14 rfl (by kernel_rfl) (by kernel_rfl) (by kernel_rfl) (fun _ _ _ _ h => h) (by rfl) rfl HS0.out ?_
          try simp only [List.set_cons_zero, List.set_cons_succ]
          refine take_not 15 rfl (by kernel_rfl) (by kernel_rfl) (by kernel_rfl) (fun _ _ _ _ h => h) (by rfl) rfl HS0.out ?_
          try simp only [List.set_cons_zero, List.set_cons_succ]
          refine take_val 16 (.bool false) rfl (by kernel_rfl) (by kernel_rfl) (by kernel_rfl) (fun _ _ _ _ h => h) (by rfl) rfl (fun wz hS => by go_simp) HS0.out ?_
          try simp only [List.set_cons_zero, List.set_cons_succ]
          refine wpAnyH_done (by kernel_rfl) ?_ _
          refine NoPanic.normal ?_
          have HDR2 : Hid (DR wr.drew g LL sp) := Lib.hid HS0.out.1
          have HGX2 : Hid (GX g w wr.drew) := Lib.hid HS0.out.2
          clear HS0 HDR HGX
          go_wp2_with fail
          go_roundw
          case rel => exact ⟨i + 1, _, R', by go_num, by have h1 := HPL.out; have h2 := HI.out; simp only [List.length_append, List.length_cons, List.length_nil] at h1 ⊢; omega, by omega, Lib.hid (fun _ => by have h1 := HPL.out; have h2 := HI.out; simp only [List.length_append, List.length_cons, List.length_nil] at h1 ⊢; omega), Lib.hid HST.out.1, Lib.hid HST.out.2, Lib.hid (by rw [← HLL.out] at HDR2; have := HDR2.out; simpa using this), HGX2⟩
          case measure => simp [intOf]; omega
    · have m1 : ¬ (i : Int) < (b : Int) := by omega
      have hR : R = [] := by
        cases hr : R with
        | nil => rfl
        | cons x R' => have := HRI.out (by rw [hr]; simp); rw [hr] at hlen; simp at hlen; omega
      subst hR
      have HDF : Hid (DR wr g (A ++ (P ++ C)) sp) := Lib.hid (by have := HDO.out; rwa [List.append_nil] at this)
      have HIF : Hid (Ins key id M P) := Lib.hid (by have := HIN.out; rwa [List.append_nil] at this)
      clear hlen hab HRI
      go_wp2_with fail
      go_end0
      exact ⟨rfl, P, HIF.out, HSP.out, HDF.out, HGO.out⟩
end Go.Proofs.Ytpfmfigommmjiaa
