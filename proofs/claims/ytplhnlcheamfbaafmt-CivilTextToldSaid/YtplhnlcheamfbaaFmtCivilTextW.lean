/- lumkeep.CivilText. -/
import Derived.Test.YtplhnlcheamfbaaFmtCivilFmt
namespace Go.Proofs.YtplhnlcheamfbaaFmt
open Go.RowKit Go.Kit Plain Go.Extern.Stop Go.Stop Go.Extern
def inR (n : Int) : Prop := -719162 ≤ n ∧ n ≤ 2932896
def dB (n : Int) : ByteArray := strOf (dtext (dY n).toNat (dM n).toNat (dD n).toNat)
theorem dt_bds {n : Int} (h : inR n) : (dY n).toNat < 10000 ∧ (dM n).toNat < 100 ∧ (dD n).toNat < 100 := by
  obtain ⟨y1, y2, m1, m2, d1, d2, _⟩ := dt_spec n h.1 h.2
  have hml := mlen_bd (dY n) (dM n)
  generalize dY n = Y at *
  generalize dM n = M at *
  generalize dD n = D at *
  omega
theorem dtext_lt {y m d : Nat} (hy : y < 10000) (hm : m < 100) (hd : d < 100) : ∀ c ∈ dtext y m d, c < 256 := by
  intro c hc
  simp only [dtext, dgs4, dgs2, List.cons_append, List.nil_append, List.mem_cons, List.not_mem_nil, or_false] at hc
  omega
theorem dB_strN {n : Int} (h : inR n) : strN (dB n) = dtext (dY n).toNat (dM n).toNat (dD n).toNat := by
  obtain ⟨h1, h2, h3⟩ := dt_bds h
  unfold dB
  exact strN_strOf _ (dtext_lt h1 h2 h3)
theorem dB_size {n : Int} (h : inR n) : (dB n).size = 10 := by
  rw [← strN_length, dB_strN h]
  rfl
theorem dB_less {n k : Int} (hn : inR n) (hk : inR k) : Op.bytesLess (dB n).toList (dB k).toList = decide (n < k) := by
  obtain ⟨a1, a2, a3⟩ := dt_bds hn
  obtain ⟨b1, b2, b3⟩ := dt_bds hk
  rw [ByteArray.toList_eq, ByteArray.toList_eq]
  unfold dB strOf
  have he := bytesLess_ofNat _ _ (dtext_lt a1 a2 a3) (dtext_lt b1 b2 b3)
  rw [less_dtext a1 b1 a2 b2 a3 b3] at he
  have hd := date_lt (dt_spec n hn.1 hn.2) (dt_spec k hk.1 hk.2)
  obtain ⟨y1, y2, m1, m2, d1, d2, _⟩ := dt_spec n hn.1 hn.2
  obtain ⟨y1', y2', m1', m2', d1', d2', _⟩ := dt_spec k hk.1 hk.2
  refine Eq.trans ?_ (he.trans ?_)
  · rfl
  · rw [decide_eq_decide, hd]
    generalize dY n = Y at *
    generalize dM n = M at *
    generalize dD n = D at *
    generalize dY k = Y' at *
    generalize dM k = M' at *
    generalize dD k = D' at *
    omega
theorem dB_good {n : Int} (h : inR n) : RdGood (strN (dB n)) ∧ dnum (sY (strN (dB n)) : Int) (sM (strN (dB n)) : Int) (sD (strN (dB n)) : Int) = n := by
  obtain ⟨h1, h2, h3⟩ := dt_bds h
  obtain ⟨f1, f2, f3, f4⟩ := dtext_form h1 h2 h3
  rw [dB_strN h]
  unfold RdGood
  rw [f2, f3, f4]
  obtain ⟨y1, y2, m1, m2, d1, d2, he⟩ := dt_spec n h.1 h.2
  have e1 : (((dY n).toNat : Nat) : Int) = dY n := Int.toNat_of_nonneg (Int.le_trans (by decide) y1)
  have e2 : (((dM n).toNat : Nat) : Int) = dM n := Int.toNat_of_nonneg (Int.le_trans (by decide) m1)
  have e3 : (((dD n).toNat : Nat) : Int) = dD n := Int.toNat_of_nonneg (Int.le_trans (by decide) d1)
  rw [e1, e2, e3]
  exact ⟨⟨f1, y1, y2, m1, m2, d1, d2⟩, he⟩
theorem good_dB {s : ByteArray} (h : RdGood (strN s)) : ∃ m, inR m ∧ dB m = s ∧ dnum (sY (strN s) : Int) (sM (strN s) : Int) (sD (strN s) : Int) = m := by
  obtain ⟨hf, y1, y2, m1, m2, d1, d2⟩ := h
  have hI : IsDate (sY (strN s) : Int) (sM (strN s) : Int) (sD (strN s) : Int) (dnum (sY (strN s) : Int) (sM (strN s) : Int) (sD (strN s) : Int)) := ⟨y1, y2, m1, m2, d1, d2, rfl⟩
  have hr := hI.range
  refine ⟨_, hr, ?_, rfl⟩
  apply strN_inj
  rw [dB_strN hr]
  obtain ⟨e1, e2, e3⟩ := dt_unique hI
  rw [e1, e2, e3]
  exact (form_dtext hf).1.symm
theorem text_is (F : Interp) (n : Int) (w : World) (hF : F.told.answers w.tape) (h : inR n) :
    Calls Tryf.prog 4 #[.int .i64 n] w fun e w' => Below w.heap.size w w' ∧ e = .returned (.tuple #[.string (dB n), .int .i64 0]) := by
  refine (text_in F n w hF h.1 h.2).mono ?_
  rintro e w' ⟨hb, s, rfl, hs⟩
  have : s = dB n := strN_inj (by rw [dB_strN h]; exact hs)
  subst this
  exact ⟨hb, rfl⟩
theorem text_not (n : Int) (w : World) (h : ¬ inR n) :
    Calls Tryf.prog 4 #[.int .i64 n] w fun e w' => Below w.heap.size w w' ∧ e = .returned (.tuple #[.string ⟨#[]⟩, .int .i64 1]) := by
  refine (text_out n w (by unfold inR at h; omega)).mono ?_
  rintro e w' ⟨rfl, rfl⟩
  exact ⟨Below.refl _ _, rfl⟩
theorem dB_zero : dB 0 = ⟨#[49, 57, 55, 48, 45, 48, 49, 45, 48, 49]⟩ := by
  obtain ⟨e1, e2, e3⟩ := dt_unique (y := 1970) (m := 1) (d := 1) (n := 0) (by unfold IsDate; decide)
  unfold dB
  rw [e1, e2, e3]
  rfl
theorem read_dB (n : Int) (w : World) (h : inR n) : Calls Tryf.prog 5 #[.string (dB n)] w fun e w' => Below w.heap.size w w' ∧ e = .returned (.tuple #[.int .i64 n, .int .i64 0]) := by
  obtain ⟨hg, he⟩ := dB_good h
  refine (read_any (dB n) w (by rw [dB_size h]; decide)).mono ?_
  rintro e w' ⟨hb, m, c, rfl, ⟨rfl, _, rfl⟩ | ⟨_, _, hn⟩⟩
  · rw [he]
    exact ⟨hb, rfl⟩
  · exact absurd hg hn
theorem read_bad (s : ByteArray) (w : World) (hs : s.size ≤ 9223372036854775807) (h : ¬ RdGood (strN s)) : Calls Tryf.prog 5 #[.string s] w fun e w' => Below w.heap.size w w' ∧ ∃ c : Nat, c ≠ 0 ∧ e = .returned (.tuple #[.int .i64 0, .int .i64 (c : Int)]) := by
  refine (read_any s w hs).mono ?_
  rintro e w' ⟨hb, m, c, rfl, ⟨_, hg, _⟩ | ⟨hc, rfl, _⟩⟩
  · exact absurd hg h
  · exact ⟨hb, c, hc, rfl⟩
theorem nil_bad : ¬ RdGood (strN ⟨#[]⟩) := by
  rintro ⟨⟨h, _⟩, _⟩
  exact absurd h (by decide)
theorem told_keep {F : Interp} {w w' : World} (h : F.told.answers w.tape) (hb : Below w.heap.size w w') : F.told.answers w'.tape := by rw [hb.tape]; exact h
end Go.Proofs.YtplhnlcheamfbaaFmt
