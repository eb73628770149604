/- The walk of MoveBack. -/
import Derived.Test.YtmdodcpmbhehdaaDoorMoveRead
import Derived.Test.YtmdodcpmbhehdaaDoorMoveSame
namespace Go.Proofs.YtmdodcpmbhehdaaDoor
open Go.RowKit Plain Go.Maps
set_option linter.unusedVariables false
set_option linter.unusedSimpArgs false
theorem RdO.unique {t u v : List Nat} {o p : Ol} (x : RdO t o u) (y : RdO t p v) : o = p := by
  obtain ⟨s1, s2, s3, h1, h2, h3, h4⟩ := x
  obtain ⟨r1, r2, r3, k1, k2, k3, k4⟩ := y
  obtain ⟨n, tm, W⟩ := o
  obtain ⟨n', tm', W'⟩ := p
  simp only at h1 h2 h3 h4 k1 k2 k3 k4
  rw [h1] at k1
  simp only [Option.some.injEq, Prod.mk.injEq] at k1
  obtain ⟨rfl, rfl⟩ := k1
  rw [h2] at k2
  simp only [Option.some.injEq, Prod.mk.injEq] at k2
  obtain ⟨rfl, rfl⟩ := k2
  rw [h3] at k3
  simp only [Option.some.injEq, Prod.mk.injEq] at k3
  obtain ⟨e, rfl⟩ := k3
  rw [← e] at k4
  obtain ⟨rfl, _⟩ := h4.unique k4
  rfl
theorem olB_of {o : OM} (h : OneOk o) (hi : ∀ x ∈ o.2.2.2.2, ItOk x) : OlB (olOf o) := by
  obtain ⟨h1, h2, h3⟩ := h
  have hz := chk_sizeM h1
  obtain ⟨h4, h5⟩ := wcode_ic h3
  refine ⟨by simp only [olOf, strN_length]; omega, by simp only [olOf]; omega, by simp only [olOf, List.length_map]; exact h4, fun x hx => ?_⟩
  simp only [olOf] at hx
  obtain ⟨y, hy, rfl⟩ := List.mem_map.1 hx
  have hf := icode_facts (h5 y hy)
  exact ⟨by simp only [imOf, strN_length]; omega, by simp only [imOf]; omega, by simp only [imOf]; omega, by simp only [imOf]; exact (hi y hy).2, by simp only [imOf, strN_length]; omega⟩
theorem frms_inj {R S : List ByteArray} {t : List Nat} (h : Frms idf (R.map strN) t) (g : Frms idf (S.map strN) t) : R = S := strNs_inj ((Frms.all idf_length h).unique (Frms.all idf_length g)).1
/-- two lists of one text are the same -/
theorem same_of {L O : List OM} {R S : List ByteArray} {t : List Nat} (h1 : RecsOf L R) (h2 : RecsOf O S) (f1 : Frms idf (R.map strN) t) (f2 : Frms idf (S.map strN) t) (k1 : MvOk L) (k2 : MvOk O) (i1 : ∀ o ∈ L, ∀ x ∈ o.2.2.2.2, ItOk x) (i2 : ∀ o ∈ O, ∀ x ∈ o.2.2.2.2, ItOk x) :
    L.length = O.length ∧ ∀ (i : Nat) (h : i < L.length) (h' : i < O.length), SameO L[i] O[i] := by
  have e := frms_inj f1 f2
  subst e
  refine ⟨by rw [← h1.1, h2.1], fun i a b => ?_⟩
  have c : i < R.length := by rw [h1.1]; exact a
  have m1 := List.getElem_mem a
  have m2 := List.getElem_mem b
  have r1 := (h1.2 i a c).rd (olB_of (k1.2.1 _ m1) (i1 _ m1))
  have r2 := (h2.2 i b c).rd (olB_of (k2.2.1 _ m2) (i2 _ m2))
  exact (one_same (RdO.unique r1 r2) (k1.2.1 _ m1) (k2.2.1 _ m2).2.1.1).2
def aB : ByteArray := ⟨#[97]⟩
def oneA : OM := (aB, 0, none, 0, [])
theorem oneA_mv : MvOk [oneA] := ⟨by decide, fun o ho => by
  rw [List.mem_singleton] at ho
  subst ho
  exact ⟨by decide +kernel, by decide, by show wcode [] = 0; unfold wcode; rw [if_neg (by decide)]; rfl⟩, by simp⟩
theorem oneA_ok : PkOkM [oneA] := by
  refine ⟨oneA_mv, [strOf (putT (strN aB)) ++ numS 0 ++ numS 0], ⟨rfl, fun i h h' => ?_⟩, ?_⟩
  · obtain rfl : i = 0 := by simp at h; omega
    refine ⟨_, _, [], numS_num 0 (by decide), numS_num 0 (by decide), by simpa [olOf, oneA] using EncL.nil, ?_⟩
    show strN (strOf (putT (strN aB)) ++ numS 0 ++ numS 0) = putT (strN aB) ++ (strN (numS 0) ++ (strN (numS 0) ++ []))
    rw [strN_add, strN_add, strN_strOf _ (putT_lt (strN_lt aB))]
    simp
  · generalize hr : strOf (putT (strN aB)) ++ numS 0 ++ numS 0 = r
    have hz : r.size ≤ 30 := by
      rw [← hr, size_add, size_add, strOf_size]
      have h1 := putT_length (strN aB)
      have h2 := numS_size 0 (by decide)
      rw [strN_length] at h1
      have h3 : aB.size = 1 := rfl
      omega
    have hf : Frm idf (strN r) (strN (numS r.size) ++ strN r ++ idf (strN (numS r.size) ++ strN r)) := ⟨by rw [strN_length]; omega, strN (numS r.size), by rw [strN_length]; exact numS_num _ (by omega), rfl⟩
    refine ⟨_, Frms.cons Frms.nil hf, ?_⟩
    have h2 := numS_size r.size (by omega)
    simp only [List.length_append, List.length_nil, strN_length, idf_length]
    omega
theorem oneA_long {t : ByteArray} {R : List ByteArray} (h : RecsOf [oneA] R) (hf : Frms idf (R.map strN) (strN t)) : 12 ≤ t.size := by
  obtain ⟨hl, hr⟩ := h
  match R, hl with
  | [r], _ =>
    obtain ⟨f, u, h1, _, h3⟩ := Frms.split (l := []) hf
    have h4 := Frm.length idf_length h1
    obtain ⟨a, b, W, n1, n2, n3, e⟩ := hr 0 (by simp) (by simp)
    have e2 := congrArg List.length e
    simp only [List.length_append, List.getElem_cons_zero, olOf, oneA] at e2
    have h5 : (putT (strN aB)).length = 3 := by decide +kernel
    have h6 := congrArg List.length h3
    rw [strN_length, List.length_append] at h6
    omega
theorem row_rangeMB {w : World} {b : Nat} {t : TypeId} {l : List Value} (h : w.heap[b]? = some (.cells l.toArray t (0, 0))) : w.rangeAt b 0 l := fun j v hj => by
  rw [Nat.zero_add, cell_of_row _ _ _ _ _ _ h]
  simpa using hj
/-- the law walked -/
theorem nat_oneA (u : World) : SAt 3 omC (u.alloc (.cells #[.string aB, .int .i64 0, .slice none 0 0] 57)) (some ⟨u.heap.size, 0, none⟩) [oneA] := by
  intro i hi
  obtain rfl : i = 0 := by simpa using hi
  exact ⟨u.heap.size, 0, rfl, by simp, row_rangeMB (l := omC oneA) (heap_alloc_new u _)⟩
theorem om_oneA (u : World) : ∀ o ∈ [oneA], OmOk u o := fun o ho => by
  rw [List.mem_singleton] at ho
  subst ho
  exact ⟨by decide, SAt.nil, by decide, fun x hx => absurd (show x ∈ ([] : List It) from hx) (by simp)⟩
set_option maxRecDepth 100000 in
set_option maxHeartbeats 8000000 in
theorem moveBack_any (a : Option Addr) (cap : Nat) (L : List OM) (s : ByteArray) (m : Int) (w : World) (h : SAt 3 omC w a L) (hl : L.length ≤ 9223372036854775807) (ho : ∀ o ∈ L, OmOk w o) (hs : s.size ≤ 1048576) (hm : MaxL m w) (hT : Tabs w) :
    Calls Tryd.prog 5 #[.slice a L.length cap, .string s] w fun e w' => e = .returned (.bool true) ∧ Below w.heap.size w w' := by
  have HS := Lib.hid h
  have HO := Lib.hid ho
  have HM := Lib.hid hm
  have HT := Lib.hid hT
  have HB0 := Lib.hid ((Below.refl w.heap.size w).alloc (Nat.le_refl _) (.cells #[.string aB, .int .i64 0, .slice none 0 0] 57))
  have HP0 := Lib.hid (mpack_any (some ⟨w.heap.size, 0, none⟩) 1 [oneA] m (w.alloc (.cells #[.string aB, .int .i64 0, .slice none 0 0] 57)) (nat_oneA w) (by decide) (om_oneA _) (HM.out.below HB0.out) (HT.out.below HB0.out))
  have HIO : Hid (∀ o ∈ L, ∀ x ∈ o.2.2.2.2, ItOk x) := Lib.hid fun o h => (HO.out o h).2.2.2
  simp only [List.length_cons, List.length_nil] at HP0
  unfold aB at *
  clear h ho hm hT
  go_enter Tryd.func5, Tryd.ntmps5
  go_wp2_with fail
  refine HP0.out.mono ?_
  rintro e w1 ⟨⟨t0, _, hr0, _, rfl⟩ | ⟨c0, _, hn0, _⟩, hb⟩
  rotate_left
  · exact absurd oneA_ok hn0
  have HB1 := Lib.hid (Below.step HB0.out hb)
  have f0 : ¬ (t0.size : Int) < 12 := by
    obtain ⟨R0, g1, g2⟩ := hr0
    have := oneA_long g1 g2
    omega
  have HP1 := Lib.hid (mpack_any a cap L m w1 (HS.out.below HB1.out) hl (fun o ho => (HO.out o ho).below HB1.out) (HM.out.below HB1.out) (HT.out.below HB1.out))
  clear hb hr0 HP0
  go_wp2_with fail
  refine HP1.out.mono ?_
  rintro e w2 ⟨⟨t, hmv, hrec, htz, rfl⟩ | ⟨c2, hc2, _, rfl⟩, hb⟩
  · have HB2 := Lib.hid (Below.step HB1.out hb)
    have HMV := Lib.hid hmv
    have HREC := Lib.hid hrec
    have HTZ := Lib.hid htz
    have HRD := Lib.hid (mread_any t m w2 (by omega) (HM.out.below HB2.out) (HT.out.below HB2.out))
    clear hb hmv hrec htz HP1
    go_wp2_with fail
    refine HRD.out.mono ?_
    rintro e w3 ⟨hb, ⟨a3, c3, O, rfl, hs3, ho3, hl3, hmv3, hrec3, hz3⟩ | ⟨rfl, hn⟩⟩
    rotate_left
    · exfalso
      obtain ⟨R, g1, g2⟩ := HREC.out
      exact hn L R HTZ.out HMV.out g1 (fun o ho => olB_of (HMV.out.2.1 o ho) (HIO.out o ho)) g2
    have HB3 := Lib.hid (Below.step HB2.out hb)
    have hsame : L.length = O.length ∧ ∀ (i : Nat) (h : i < L.length) (h' : i < O.length), SameO L[i] O[i] := by
      obtain ⟨R, g1, g2⟩ := HREC.out
      obtain ⟨R', g3, g4⟩ := hrec3
      exact same_of g1 g3 g2 g4 HMV.out hmv3 HIO.out (fun o ho => (ho3 o ho).2.2.2)
    have HSM := Lib.hid (sameOlds_any a a3 cap c3 L O w3 (HS.out.below HB3.out) hs3 (fun o ho => (HO.out o ho).below HB3.out) ho3 hsame.1 HMV.out.1 hsame.2)
    clear hb hs3 ho3 hmv3 hrec3 hz3 hsame HRD
    go_wp2_with fail
    refine HSM.out.mono ?_
    rintro e w4 ⟨rfl, hb⟩
    have HB4 := Lib.hid (Below.step HB3.out hb)
    clear hb HSM
    have HRS := Lib.hid (mread_any s m w4 (by omega) (HM.out.below HB4.out) (HT.out.below HB4.out))
    go_wp2_with fail
    refine HRS.out.mono ?_
    rintro e w8 ⟨hb, ⟨a8, c8, O8, rfl, hs8, ho8, hl8, hmv8, hrec8, hz8⟩ | ⟨rfl, _⟩⟩
    · have HB8 := Lib.hid (Below.step HB4.out hb)
      have HP8 := Lib.hid (mpack_any a8 c8 O8 m w8 hs8 (by omega) ho8 (HM.out.below HB8.out) (HT.out.below HB8.out))
      have HV8 := Lib.hid hmv8
      have HR8 := Lib.hid hrec8
      have HZ8 := Lib.hid hz8
      clear hb hs8 ho8 hmv8 hrec8 hz8 HRS
      go_wp2_with fail
      refine HP8.out.mono ?_
      rintro e w9 ⟨⟨u, _, hru, _, rfl⟩ | ⟨c9, _, hn9, rfl⟩, hb⟩
      · have HB9 := Lib.hid (Below.step HB8.out hb)
        obtain rfl : u = s := by
          obtain ⟨R1, g1, g2⟩ := hru
          obtain ⟨R2, g3, g4⟩ := HR8.out
          have e := g1.unique g3 rfl
          subst e
          exact strN_inj (g2.unique g4)
        have f8 : (u.toList == u.toList) = true := by simp
        clear hb hru HP8
        go_wp2_with fail
        go_ret
        exact ⟨rfl, HB9.out⟩
      · exfalso
        obtain ⟨R, g1, g2⟩ := HR8.out
        exact hn9 ⟨HV8.out, R, g1, strN s, g2, by rw [strN_length]; exact HZ8.out⟩
    · have HB8 := Lib.hid (Below.step HB4.out hb)
      have HP8 := Lib.hid (mpack_any none 0 [] m w8 SAt.nil (by decide) (fun o ho => absurd ho (by simp)) (HM.out.below HB8.out) (HT.out.below HB8.out))
      simp only [List.length_nil] at HP8
      clear hb HRS
      go_wp2_with fail
      refine HP8.out.mono ?_
      rintro e w9 ⟨he, hb⟩
      obtain ⟨u, c9, rfl⟩ : ∃ (u : ByteArray) (c9 : Int), e = .returned (.tuple #[.string u, .int .i64 c9]) := by
        rcases he with ⟨u, _, _, _, rfl⟩ | ⟨c9, _, _, rfl⟩
        · exact ⟨u, 0, rfl⟩
        · exact ⟨_, c9, rfl⟩
      have HB9 := Lib.hid (Below.step HB8.out hb)
      clear hb he HP8
      go_wp2_with fail
      go_ret
      exact ⟨rfl, HB9.out⟩
  · have HB2 := Lib.hid (Below.step HB1.out hb)
    have f2 : (c2 == 0) = false := by simpa using hc2
    have HRD := Lib.hid (mread_any ⟨#[]⟩ m w2 (by decide) (HM.out.below HB2.out) (HT.out.below HB2.out))
    clear hb HP1 hc2
    go_wp2_with fail
    refine HRD.out.mono ?_
    rintro e w4 ⟨hb, he⟩
    obtain ⟨a3, n3, c3, c4, rfl⟩ : ∃ (a3 : Option Addr) (n3 c3 : Nat) (c4 : Int), e = .returned (.tuple #[.slice a3 n3 c3, .int .i64 c4]) := by
      rcases he with ⟨a3, c3, O, rfl, _⟩ | ⟨rfl, _⟩
      · exact ⟨a3, _, c3, 0, rfl⟩
      · exact ⟨none, 0, 0, 4, rfl⟩
    have HB4 := Lib.hid (Below.step HB2.out hb)
    clear hb he HRD
    have HRS := Lib.hid (mread_any s m w4 (by omega) (HM.out.below HB4.out) (HT.out.below HB4.out))
    go_wp2_with fail
    refine HRS.out.mono ?_
    rintro e w8 ⟨hb, ⟨a8, c8, O8, rfl, hs8, ho8, hl8, hmv8, hrec8, hz8⟩ | ⟨rfl, _⟩⟩
    · have HB8 := Lib.hid (Below.step HB4.out hb)
      have HP8 := Lib.hid (mpack_any a8 c8 O8 m w8 hs8 (by omega) ho8 (HM.out.below HB8.out) (HT.out.below HB8.out))
      have HV8 := Lib.hid hmv8
      have HR8 := Lib.hid hrec8
      have HZ8 := Lib.hid hz8
      clear hb hs8 ho8 hmv8 hrec8 hz8 HRS
      go_wp2_with fail
      refine HP8.out.mono ?_
      rintro e w9 ⟨⟨u, _, hru, _, rfl⟩ | ⟨c9, _, hn9, rfl⟩, hb⟩
      · have HB9 := Lib.hid (Below.step HB8.out hb)
        obtain rfl : u = s := by
          obtain ⟨R1, g1, g2⟩ := hru
          obtain ⟨R2, g3, g4⟩ := HR8.out
          have e := g1.unique g3 rfl
          subst e
          exact strN_inj (g2.unique g4)
        have f8 : (u.toList == u.toList) = true := by simp
        clear hb hru HP8
        go_wp2_with fail
        go_ret
        exact ⟨rfl, HB9.out⟩
      · exfalso
        obtain ⟨R, g1, g2⟩ := HR8.out
        exact hn9 ⟨HV8.out, R, g1, strN s, g2, by rw [strN_length]; exact HZ8.out⟩
    · have HB8 := Lib.hid (Below.step HB4.out hb)
      have HP8 := Lib.hid (mpack_any none 0 [] m w8 SAt.nil (by decide) (fun o ho => absurd ho (by simp)) (HM.out.below HB8.out) (HT.out.below HB8.out))
      simp only [List.length_nil] at HP8
      clear hb HRS
      go_wp2_with fail
      refine HP8.out.mono ?_
      rintro e w9 ⟨he, hb⟩
      obtain ⟨u, c9, rfl⟩ : ∃ (u : ByteArray) (c9 : Int), e = .returned (.tuple #[.string u, .int .i64 c9]) := by
        rcases he with ⟨u, _, _, _, rfl⟩ | ⟨c9, _, _, rfl⟩
        · exact ⟨u, 0, rfl⟩
        · exact ⟨_, c9, rfl⟩
      have HB9 := Lib.hid (Below.step HB8.out hb)
      clear hb he HP8
      go_wp2_with fail
      go_ret
      exact ⟨rfl, HB9.out⟩
end Go.Proofs.YtmdodcpmbhehdaaDoor
