/- The walk of MixChain. -/
import Derived.Test.YtcocdlhjfbpkfaaMixSteps
import Derived.Test.YtcocdlhjfbpkfaaShelf
namespace Go.Proofs.Ytcocdlhjfbpkfaa
open Go.RowKit Plain
theorem repeat_zero (c : Int) (w : World) (h0 : 0 ≤ c) (h8 : c < 8) : Calls Try.prog 36 #[.string ⟨#[0]⟩, .int .i64 c] w fun e w' => e = .returned (.string (strOf (List.replicate c.toNat 0))) ∧ Below w.heap.size w w' := by
  obtain ⟨n, rfl⟩ := Int.eq_ofNat_of_zero_le h0
  refine (Try.strings_Repeat ⟨#[0]⟩ n w (by omega) (by show 1 * n ≤ _; omega)).mono ?_
  rintro e w' ⟨rfl, hb⟩
  refine ⟨?_, hb⟩
  rw [Int.toNat_natCast]
  have h : ∀ n, Lib.repeatL (⟨#[0]⟩ : ByteArray).data.toList n = (List.replicate n 0).map UInt8.ofNat := by
    intro n
    induction n with
    | zero => rfl
    | succ n ih => simp [Lib.repeatL, List.replicate_succ] at ih ⊢; exact ih
  show Ending.returned (.string _) = Ending.returned (.string _)
  rw [h]
  rfl
set_option maxRecDepth 100000 in
theorem mixChain_out (k : Int) (a b : ByteArray) (w : World) (h : k < 1 ∨ 64 < k) : Calls Try.prog 13 #[.int .i64 k, .string a, .string b] w fun e w' => e = .returned (.bool true) ∧ Below w.heap.size w w' := by
  have HS2 := Lib.hid fun wx => step_any 1 2 wx (by decide) (by decide)
  have HS3 := Lib.hid fun wx => step_any 1 3 wx (by decide) (by decide)
  have hne : Hid ((((mstep 1 2 : Nat) : Int) == ((mstep 1 3 : Nat) : Int)) = false) := by show _ = _; decide +kernel
  generalize mstep 1 2 = s2 at *
  generalize mstep 1 3 = s3 at *
  have HA := Lib.hid fun wx => narrow_out k a wx h
  have HB := Lib.hid fun wx => narrow_out k b wx h
  have hne2 := hne.out
  go_enter Try.func13, Try.ntmps13
  go_wp2_with fail
  refine (HS2.out _).mono ?_
  rintro e w' ⟨rfl, rfl⟩
  go_wp2_with fail
  refine (HS3.out _).mono ?_
  rintro e w' ⟨rfl, rfl⟩
  go_wp2_with fail
  refine (HA.out _).mono ?_
  rintro e w' ⟨rfl, rfl⟩
  go_wp2_with fail
  refine (HB.out _).mono ?_
  rintro e w' ⟨rfl, rfl⟩
  go_wp2_with fail
  go_ret
  exact ⟨rfl, Below.refl _ _⟩
/-- the cells of some steps -/
def StRow (w : World) (g : Nat) (l : List (Nat × Nat × Nat)) : Prop := ∀ i (h : i < l.length), w.rangeAt g (i * 3) (stC l[i])
theorem stCs_get (l : List (Nat × Nat × Nat)) : ∀ (i j : Nat) (h : i < l.length), j < 3 → (stCs l)[i * 3 + j]? = (stC l[i])[j]? := by
  induction l with
  | nil => intro i j h; cases h
  | cons p l ih =>
    intro i j h hj
    have e : stCs (p :: l) = stC p ++ stCs l := rfl
    rw [e]
    cases i with
    | zero => rw [List.getElem?_append_left (by show _ < 3; omega)]; simp
    | succ i =>
      rw [List.getElem?_append_right (by show 3 ≤ _; omega)]
      have := ih i j (by simpa using h) hj
      show (stCs l)[(i + 1) * 3 + j - 3]? = _
      rw [show (i + 1) * 3 + j - 3 = i * 3 + j by omega, this]
      rfl
theorem stRow_own {w : World} {base : Nat} {t : TypeId} {v : Value} {l : List (Nat × Nat × Nat)} (h : w.ownsRow base t 3 v l.length (stCs l)) (h0 : l ≠ []) :
    ∃ g cap, v = .slice (some ⟨g, 0, none⟩) l.length cap ∧ g < w.heap.size ∧ StRow w g l ∧ 1 ≤ l.length ∧ l.length ≤ 9223372036854775807 := by
  have hl : 0 < l.length := List.length_pos_iff.2 h0
  obtain ⟨_, h2⟩ := h
  rcases h2 with ⟨_, h3⟩ | ⟨g, cap, cur, hv, hb, hg, h3, h4, h5, h6⟩
  · omega
  · refine ⟨g, cap, hv, lt_of_block hg, fun i hi j u hu => ?_, hl, by unfold maxLen at h4; omega⟩
    have hj : j < 3 := by
      rcases Nat.lt_or_ge j 3 with h | h
      · exact h
      · rw [List.getElem?_eq_none (by show 3 ≤ j; exact h)] at hu; cases hu
    rw [cell_of_row _ _ _ _ _ _ hg, ← hu, ← stCs_get l i j hi hj, ← h6, List.getElem?_take, if_pos (by omega)]
    simp
theorem StRow.below {w w' : World} {g : Nat} {l : List (Nat × Nat × Nat)} (h : StRow w g l) (hb : Below w.heap.size w w') (hg : g < w.heap.size) : StRow w' g l :=
  fun i hi j u hu => (hb.cell (p := ⟨g, i * 3 + j, none⟩) hg).trans (h i hi j u hu)
theorem same_str {a b : ByteArray} (h : a = b) : (a.toList == b.toList) = true := by subst h; simp
theorem other_str {a b : ByteArray} (h : a ≠ b) : (a.toList == b.toList) = false := by
  rw [beq_eq_false_iff_ne]
  intro e
  rw [Lib.toList_data, Lib.toList_data] at e
  exact h (strN_inj (by unfold strN; rw [e]))
/-- no two steps collide -/
def NoCol (l m : List (Nat × Nat × Nat)) : Prop := ∀ p ∈ l, ∀ q ∈ m, ¬ (p.2.2 = q.2.2 ∧ (p.1 ≠ q.1 ∨ p.2.1 ≠ q.2.1))
theorem NoCol.snoc {p : Nat × Nat × Nat} {m : List (Nat × Nat × Nat)} {j : Nat} (h : NoCol [p] (m.take j)) (hj : j < m.length) (h1 : ¬ (p.2.2 = m[j].2.2 ∧ (p.1 ≠ m[j].1 ∨ p.2.1 ≠ m[j].2.1))) : NoCol [p] (m.take (j + 1)) := by
  intro a ha q hq
  rw [List.take_succ_eq_append_getElem hj] at hq
  rcases List.mem_append.1 hq with hq | hq
  · exact h a ha q hq
  · simp only [List.mem_singleton] at ha hq
    subst ha hq
    exact h1
theorem NoCol.next {l m : List (Nat × Nat × Nat)} {i : Nat} {p : Nat × Nat × Nat} (h : NoCol (l.take i) m) (hi : i < l.length) (hp : l[i] = p) (h1 : NoCol [p] m) : NoCol (l.take (i + 1)) m := by
  intro a ha q hq
  rw [List.take_succ_eq_append_getElem hi] at ha
  rcases List.mem_append.1 ha with ha | ha
  · exact h a ha q hq
  · simp only [List.mem_singleton] at ha
    subst ha
    rw [hp]
    exact h1 p (by simp) q hq
set_option maxRecDepth 100000 in
set_option maxHeartbeats 1000000 in
theorem mixChain_in (k : Nat) (a b : ByteArray) (w : World) (h1 : 1 ≤ k) (h2 : k ≤ 64) (ha : a.size ≤ 1048576) (hb : b.size ≤ 1048576) : Calls Try.prog 13 #[.int .i64 (k : Int), .string a, .string b] w fun e w' => e = .returned (.bool true) ∧ Below w.heap.size w w' := by
  have HS2 := Lib.hid fun wx => step_any 1 2 wx (by decide) (by decide)
  have HS3 := Lib.hid fun wx => step_any 1 3 wx (by decide) (by decide)
  have hne : Hid ((((mstep 1 2 : Nat) : Int) == ((mstep 1 3 : Nat) : Int)) = false) := by show _ = _; decide +kernel
  generalize mstep 1 2 = s2 at *
  generalize mstep 1 3 = s3 at *
  have HA := Lib.hid fun wx => narrow_in k a wx h1 h2 (by omega)
  have HB := Lib.hid fun wx => narrow_in k b wx h1 h2 (by omega)
  have HSA := Lib.hid fun wx => steps_any k a wx h1 h2 ha (Lib.hid repeat_zero)
  have HSB := Lib.hid fun wx => steps_any k b wx h1 h2 hb (Lib.hid repeat_zero)
  have hne2 := hne.out
  have HCH : Hid (strN a ≠ strN b → msum (maskOf k) (strN a) = msum (maskOf k) (strN b) → ∃ p ∈ trAll (maskOf k) (strN a), ∃ q ∈ trAll (maskOf k) (strN b), p.2.2 = q.2.2 ∧ (p.1 ≠ q.1 ∨ p.2.1 ≠ q.2.1)) :=
    fun h => chain (maskOf k) (strN a) (strN b) (strN_lt a) (strN_lt b) h
  have hla : ∃ l, trAll (maskOf k) (strN a) = l ++ [(mfold (maskOf k) 0 (strN a), (strN a).length, msum (maskOf k) (strN a))] := ⟨_, rfl⟩
  have hlb : ∃ l, trAll (maskOf k) (strN b) = l ++ [(mfold (maskOf k) 0 (strN b), (strN b).length, msum (maskOf k) (strN b))] := ⟨_, rfl⟩
  obtain ⟨la, hla⟩ := hla
  obtain ⟨lb, hlb⟩ := hlb
  have HLA := Lib.hid hla
  have HLB := Lib.hid hlb
  clear hla hlb
  generalize trAll (maskOf k) (strN a) = A at *
  generalize trAll (maskOf k) (strN b) = B at *
  generalize msum (maskOf k) (strN a) = x at *
  generalize msum (maskOf k) (strN b) = y at *
  generalize mfold (maskOf k) 0 (strN a) = fa at *
  generalize mfold (maskOf k) 0 (strN b) = fb at *
  go_enter Try.func13, Try.ntmps13
  go_wp2_with fail
  refine (HS2.out _).mono ?_
  rintro e w' ⟨rfl, rfl⟩
  go_wp2_with fail
  refine (HS3.out _).mono ?_
  rintro e w' ⟨rfl, rfl⟩
  go_wp2_with fail
  refine (HA.out _).mono ?_
  rintro e w1 ⟨rfl, hb1⟩
  go_wp2_with fail
  refine (HB.out _).mono ?_
  rintro e w2 ⟨rfl, hb2⟩
  go_wp2_with fail
  refine (HSA.out _).mono ?_
  rintro e w3 ⟨va, rfl, hoa, hb3⟩
  go_wp2_with fail
  refine (HSB.out _).mono ?_
  rintro e w4 ⟨vb, rfl, hob, hb4⟩
  obtain ⟨ga, ca, rfl, hga, hra, na1, na2⟩ := stRow_own hoa (by rw [HLA.out]; simp)
  obtain ⟨gb, cb, rfl, hgb, hrb, nb1, nb2⟩ := stRow_own hob (by rw [HLB.out]; simp)
  have hra4 := hra.below hb4 hga
  have hga4 : ga < w4.heap.size := Nat.lt_of_lt_of_le hga hb4.size
  have hBW : Below w.heap.size w w4 := Below.step (Below.step (Below.step hb1 hb2) hb3) hb4
  have cA : w4.cell? ⟨ga, (A.length - 1) * 3 + 2, none⟩ = some (.int .u64 (x : Int)) := by
    refine hra4 (A.length - 1) (by omega) 2 _ ?_
    have : A[A.length - 1]'(by omega) = (fa, (strN a).length, x) := by simp [HLA.out]
    rw [this]
    rfl
  have cB : w4.cell? ⟨gb, (B.length - 1) * 3 + 2, none⟩ = some (.int .u64 (y : Int)) := by
    refine hrb (B.length - 1) (by omega) 2 _ ?_
    have : B[B.length - 1]'(by omega) = (fb, (strN b).length, y) := by simp [HLB.out]
    rw [this]
    rfl
  have HRA := Lib.hid hra4
  have HRB := Lib.hid hrb
  have HBW := Lib.hid hBW
  clear hra4 hrb hBW hra hoa hob hb1 hb2 hb3 hb4 hga
  by_cases hxy : x = y
  · by_cases hab : a = b
    · have e1 : ((x : Int) != (y : Int)) = false := natNe hxy
      have e2 := same_str hab
      clear hxy hab
      go_wp2_with fail
      go_ret
      exact ⟨rfl, HBW.out⟩
    · have e1 : ((x : Int) != (y : Int)) = false := natNe hxy
      have e2 := other_str hab
      have HCOL := Lib.hid (HCH.out (fun h => hab (strN_inj h)) hxy)
      clear hxy hab
      go_wp2_with fail
      clear cA cB e1 e2
      go_loopw [6, 85] (fun ov iv wr => ov = .bool false ∧ ∃ i : Nat, i ≤ A.length ∧ iv = .int .i64 (i : Int) ∧ Below w4.heap.size w4 wr ∧ NoCol (A.take i) B) (fun _ iv _ => A.length - (intOf iv).toNat)
      case atStart => exact ⟨rfl, 0, by omega, rfl, Below.refl _ _, fun p hp => by simp at hp⟩
      case round =>
        obtain ⟨rfl, i, hi, rfl, hbr, hnc⟩ := hrel
        have HBR := Lib.hid hbr
        have HNC := Lib.hid hnc
        clear hbr hnc
        by_cases hlt : i < A.length
        · have n1 : (i : Int) < (A.length : Int) := by omega
          have hrow := (HRA.out.below HBR.out hga4) i hlt
          generalize hp : A[i] = p at *
          obtain ⟨p1, p2, p3⟩ := p
          have HP := Lib.hid hp
          clear hp
          have r0 : wr.cell? ⟨ga, i * 3, none⟩ = some (.int .u64 (p1 : Int)) := hrow 0 _ rfl
          have r1 : wr.cell? ⟨ga, i * 3 + 1, none⟩ = some (.int .u64 (p2 : Int)) := hrow 1 _ rfl
          have r2 : wr.cell? ⟨ga, i * 3 + 2, none⟩ = some (.int .u64 (p3 : Int)) := hrow 2 _ rfl
          clear hrow
          go_wp2_with fail
          have HPW : Hid (wr.heap.size < (wr.alloc (.cells #[.int .u64 (p1 : Int), .int .u64 (p2 : Int), .int .u64 (p3 : Int)] 60)).heap.size) := by show _ < _; simp
          have HPB := Lib.hid (Below.alloc HBR.out HBR.out.size (.cells #[.int .u64 (p1 : Int), .int .u64 (p2 : Int), .int .u64 (p3 : Int)] 60))
          have HPR := Lib.hid (heap_alloc_new wr (.cells #[.int .u64 (p1 : Int), .int .u64 (p2 : Int), .int .u64 (p3 : Int)] 60))
          clear r0 r1 r2
          generalize wr.alloc (.cells #[.int .u64 (p1 : Int), .int .u64 (p2 : Int), .int .u64 (p3 : Int)] 60) = wp at *
          generalize wr.heap.size = bp at *
          go_loopw [6, 91] (fun ov jv wq => ov = .bool false ∧ ∃ j : Nat, j ≤ B.length ∧ jv = .int .i64 (j : Int) ∧ Below wp.heap.size wp wq ∧ NoCol [(p1, p2, p3)] (B.take j)) (fun _ jv _ => B.length - (intOf jv).toNat)
          case atStart => exact ⟨rfl, 0, by omega, rfl, Below.refl _ _, fun p _ q hq => by simp at hq⟩
          case round =>
            obtain ⟨rfl, j, hj, rfl, hbq, hncq⟩ := hrel
            have HBQ := Lib.hid hbq
            have HNQ := Lib.hid hncq
            clear hbq hncq
            have HW4 := Lib.hid (Below.step HPB.out HBQ.out)
            by_cases hjlt : j < B.length
            · have m1 : (j : Int) < (B.length : Int) := by omega
              have hrow := (HRB.out.below HW4.out hgb) j hjlt
              have HQM := Lib.hid (NoCol.snoc HNQ.out hjlt)
              generalize hq : B[j] = q at *
              obtain ⟨q1, q2, q3⟩ := q
              clear hq
              have r0 : wr.cell? ⟨gb, j * 3, none⟩ = some (.int .u64 (q1 : Int)) := hrow 0 _ rfl
              have r1 : wr.cell? ⟨gb, j * 3 + 1, none⟩ = some (.int .u64 (q2 : Int)) := hrow 1 _ rfl
              have r2 : wr.cell? ⟨gb, j * 3 + 2, none⟩ = some (.int .u64 (q3 : Int)) := hrow 2 _ rfl
              have hpr := (HBQ.out.block bp HPW.out).trans HPR.out
              have s0 := cell_of_row wr bp 0 _ _ _ hpr
              have s1 := cell_of_row wr bp 1 _ _ _ hpr
              have s2 := cell_of_row wr bp 2 _ _ _ hpr
              have hbp : bp < wr.heap.size := lt_of_block hpr
              have HRET := Lib.hid (Below.step HBW.out (Below.alloc HW4.out HW4.out.size (.cells #[.int .u64 (q1 : Int), .int .u64 (q2 : Int), .int .u64 (q3 : Int)] 60)))
              have HQA := Lib.hid (Below.alloc HBQ.out HBQ.out.size (.cells #[.int .u64 (q1 : Int), .int .u64 (q2 : Int), .int .u64 (q3 : Int)] 60))
              simp only [List.getElem?_toArray, List.getElem?_cons_zero, List.getElem?_cons_succ] at s0 s1 s2
              clear hrow hpr
              by_cases t1 : p3 = q3
              · by_cases t2 : p1 = q1
                · by_cases t3 : p2 = q2
                  · have f1 : ((p3 : Int) == (q3 : Int)) = true := natEq t1
                    have f2 : ((p1 : Int) != (q1 : Int)) = false := natNe t2
                    have f3 : ((p2 : Int) != (q2 : Int)) = false := natNe t3
                    have HN := Lib.hid (HQM.out (fun h => by rcases h.2 with h | h; exact h t2; exact h t3))
                    clear t1 t2 t3
                    go_wp2_with fail
                    go_roundw
                    case rel => exact ⟨rfl, j + 1, by omega, by go_num, HQA.out, HN.out⟩
                    case measure => simp [intOf]; omega
                  · have f1 : ((p3 : Int) == (q3 : Int)) = true := natEq t1
                    have f2 : ((p1 : Int) != (q1 : Int)) = false := natNe t2
                    have f3 : ((p2 : Int) != (q2 : Int)) = true := by simp; omega
                    clear t1 t2 t3
                    go_wp2_with fail
                    go_ret
                    exact ⟨rfl, HRET.out⟩
                · have f1 : ((p3 : Int) == (q3 : Int)) = true := natEq t1
                  have f2 : ((p1 : Int) != (q1 : Int)) = true := by simp; omega
                  clear t1 t2
                  go_wp2_with fail
                  go_ret
                  exact ⟨rfl, HRET.out⟩
              · have f1 : ((p3 : Int) == (q3 : Int)) = false := by simp; omega
                have HN := Lib.hid (HQM.out (fun h => t1 h.1))
                clear t1
                go_wp2_with fail
                go_roundw
                case rel => exact ⟨rfl, j + 1, by omega, by go_num, HQA.out, HN.out⟩
                case measure => simp [intOf]; omega
            · have m1 : ¬ (j : Int) < (B.length : Int) := by omega
              have HN := Lib.hid (NoCol.next HNC.out hlt (HP.out) (by have := HNQ.out; rwa [List.take_of_length_le (by omega)] at this))
              go_wp2_with fail
              go_roundw
              case rel => exact ⟨rfl, i + 1, by omega, by go_num, HW4.out, HN.out⟩
              case measure => simp [intOf]; omega
        · exfalso
          have hA : A.take i = A := List.take_of_length_le (by omega)
          have h := HNC.out
          rw [hA] at h
          obtain ⟨p, hp, q, hq, h1, h2⟩ := HCOL.out
          exact h p hp q hq ⟨h1, h2⟩
  · have e1 : ((x : Int) != (y : Int)) = true := by simp; omega
    clear hxy
    go_wp2_with fail
    go_ret
    exact ⟨rfl, HBW.out⟩
end Go.Proofs.Ytcocdlhjfbpkfaa
