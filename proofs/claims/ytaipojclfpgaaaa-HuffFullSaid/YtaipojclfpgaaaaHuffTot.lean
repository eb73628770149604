/- The walk of lumkeep.total; lengths as lists of ints. -/
import Derived.Test.YtaipojclfpgaaaaHuffLen
namespace Go.Proofs.Ytaipojclfpgaaaa
open Go.RowKit Plain
set_option linter.unusedVariables false
set_option linter.unusedSimpArgs false
theorem natF_len (f : List Int) : (natF f).length = f.length := by simp [natF]
theorem natF_get (f : List Int) (i : Nat) (h : i < (natF f).length) : (natF f)[i] = (f[i]'(by rw [natF_len] at h; exact h)).toNat := by simp [natF]
theorem sat_nat {w : World} {a : Option Addr} {f : List Int} (h : SAt 1 iC w a f) (h0 : ∀ (i : Nat) (h : i < f.length), 0 ≤ f[i]) : SAt 1 nI w a (natF f) := fun i hi => by
  have hi2 : i < f.length := by rw [natF_len] at hi; exact hi
  obtain ⟨g, off, e, hg, hr⟩ := h i hi2
  refine ⟨g, off, e, hg, fun j u hu => hr j u ?_⟩
  rw [natF_get] at hu
  have e2 : nI (f[i]'hi2).toNat = iC f[i] := by
    simp only [nI, iC]
    have := h0 i hi2
    rw [Int.toNat_of_nonneg this]
  rw [e2] at hu
  exact hu
theorem sat_nC {w : World} {g : Nat} {o : List Nat} (h : w.heap[g]? = some (.cells (nC o) 3 (0, 0))) : SAt 1 nI w (some ⟨g, 0, none⟩) o := fun i hi => by
  refine ⟨g, 0, rfl, lt_of_block h, fun j u hu => ?_⟩
  rw [cell_of_row _ _ _ _ _ _ h]
  match j, hu with
  | 0, hu =>
    have e : 0 + i * 1 + 0 = i := by omega
    rw [e, nC_get o i hi, ← hu]
    simp [nI, List.getD_eq_getElem?_getD, List.getElem?_eq_getElem hi]
  | j + 1, hu => simp [nI] at hu
theorem sat_int_of_nat {w : World} {a : Option Addr} {o : List Nat} (h : SAt 1 nI w a o) : SAt 1 iC w a (o.map fun n : Nat => (n : Int)) := fun i hi => by
  have hi2 : i < o.length := by simpa using hi
  obtain ⟨g, off, e, hg, hr⟩ := h i hi2
  refine ⟨g, off, e, hg, fun j u hu => hr j u ?_⟩
  rw [List.getElem_map] at hu
  exact hu
def totTo (f l : List Nat) (i : Nat) : Nat := sumS (fun s => at0 f s * at0 l s) (List.range i)
theorem totTo_succ (f l : List Nat) (i : Nat) : totTo f l (i + 1) = totTo f l i + at0 f i * at0 l i := by
  unfold totTo
  rw [List.range_succ, sumS_append, sumS_cons]
  simp [sumS]
theorem totTo_le {f l : List Nat} {B : Nat} (h : ∀ i, at0 f i * at0 l i ≤ B) (i : Nat) : totTo f l i ≤ i * B := by
  induction i with
  | zero => simp [totTo, sumS]
  | succ i ih =>
    have h3 := h i
    rw [totTo_succ, Nat.succ_mul]
    omega
theorem mul_bnd {x y : Nat} (h : x ≤ 1048576) (g : y ≤ 48) : x * y ≤ 50331648 := by
  have := Nat.mul_le_mul h g
  omega
set_option maxRecDepth 100000 in
set_option maxHeartbeats 1600000 in
theorem total_any (a b : Option Addr) (ca cb : Nat) (f l : List Nat) (w : World) (hf : SAt 1 nI w a f) (hl : SAt 1 nI w b l) (hn : f.length = l.length) (h6 : f.length ≤ 256) (h1 : ∀ i, at0 f i ≤ 1048576) (h2 : ∀ i, at0 l i ≤ 48) :
    Calls Try.prog 12 #[.slice a f.length ca, .slice b l.length cb] w fun e w' => e = .returned (.int .i64 (tot f l : Nat)) ∧ Below w.heap.size w w' := by
  have HF := Lib.hid hf
  have HL := Lib.hid hl
  have HN := Lib.hid hn
  have H1 := Lib.hid h1
  have H2 := Lib.hid h2
  have f1 : ((f.length : Int) != (l.length : Int)) = false := by rw [hn]; simp
  clear hf hl hn h1 h2
  go_enter Try.func12, Try.ntmps12
  go_wp2_with fail
  go_loopw [14, 5] (fun iv ov wr => ∃ i : Nat, iv = .int .i64 (i : Int) ∧ ov = .int .i64 (totTo f l i : Nat) ∧ i ≤ f.length ∧ Hid (Below w.heap.size w wr)) (fun iv _ _ => f.length - (intOf iv).toNat)
  case atStart => exact ⟨0, rfl, rfl, Nat.zero_le _, Lib.hid (Below.refl _ _)⟩
  case round =>
    obtain ⟨i, rfl, rfl, hi, HBR⟩ := hrel
    have m0 : (0 : Int) ≤ (i : Int) := Int.natCast_nonneg _
    by_cases hil : i < f.length
    · have m1 : (i : Int) < (f.length : Int) := by omega
      have hil2 : i < l.length := by have := HN.out; omega
      have m2 : (i : Int) < (l.length : Int) := by omega
      obtain ⟨x, hx⟩ : ∃ x, f[i] = x := ⟨_, rfl⟩
      obtain ⟨y, hy⟩ : ∃ y, l[i] = y := ⟨_, rfl⟩
      obtain ⟨g, off, ha, _, c0⟩ := SAt.cellN (HF.out.below HBR.out) i hil x hx
      obtain ⟨g2, off2, hb, _, c1⟩ := SAt.cellN (HL.out.below HBR.out) i hil2 y hy
      subst ha hb
      have hax : at0 f i = x := by rw [at0, List.getD_eq_getElem?_getD, List.getElem?_eq_getElem hil, hx]; rfl
      have hay : at0 l i = y := by rw [at0, List.getD_eq_getElem?_getD, List.getElem?_eq_getElem hil2, hy]; rfl
      have hxb : x ≤ 1048576 := by rw [← hax]; exact H1.out i
      have hyb : y ≤ 48 := by rw [← hay]; exact H2.out i
      obtain ⟨P, hP⟩ : ∃ P, x * y = P := ⟨_, rfl⟩
      have hPb : P ≤ 50331648 := by rw [← hP]; exact mul_bnd hxb hyb
      obtain ⟨Q, hQ⟩ : ∃ Q, totTo f l i = Q := ⟨_, rfl⟩
      have hQb : Q ≤ 12884901888 := by
        rw [← hQ]
        have h3 := totTo_le (f := f) (l := l) (B := 50331648) (fun i => mul_bnd (H1.out i) (H2.out i)) i
        have h4 : i * 50331648 ≤ 256 * 50331648 := Nat.mul_le_mul_right _ (by omega)
        omega
      have eP : (x : Int) * (y : Int) = (P : Int) := by rw [← hP]; simp
      have HQN : Hid (totTo f l (i + 1) = Q + P) := by show _ = _; rw [totTo_succ, hQ, hax, hay, hP]
      rw [hQ]
      clear hx hy hax hay hP hQ
      go_wp2_with fail
      go_quiet (fail)
      go_wp2_with fail
      go_roundw
      case rel => exact ⟨i + 1, by go_num, by rw [HQN.out]; go_num, by omega, Lib.hid (below_dn HBR.out _)⟩
      case measure => simp [intOf]; omega
    · have m1 : ¬ (i : Int) < (f.length : Int) := by omega
      have HT : Hid (totTo f l i = tot f l) := by
        have e : i = f.length := by omega
        rw [e]
        rfl
      rw [HT.out]
      go_wp2_with fail
      go_ret
      exact ⟨rfl, HBR.out⟩
end Go.Proofs.Ytaipojclfpgaaaa
