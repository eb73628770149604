/- The walks of chunk.Feed and chunk.Cut. -/
import Derived.Test.YtbmklkjjkjgehaaChunkW
namespace Go.Proofs.Ytbmklkjjkjgehaa
open Go.RowKit Plain
/-- is a cut right? -/
def CutOk (mn mx b : Int) : Prop := 16 ≤ mn ∧ mn ≤ mx ∧ mx ≤ 1024 ∧ 1 ≤ b ∧ b ≤ 12
/-- the rule of a cut told by integers -/
def ruleI (mn mx b : Int) : Rule := cutRule mn.toNat mx.toNat b.toNat
theorem ruleI_ok {mn mx b : Int} (h : CutOk mn mx b) : (ruleI mn mx b).ok := by
  obtain ⟨h1, h2, _⟩ := h
  show 1 ≤ mn.toNat ∧ mn.toNat ≤ mx.toNat
  omega
def FeedEnd (w0 : World) (mn mx b : Int) (s : ByteArray) (e : Ending) (w : World) : Prop :=
  (∃ (ps : List ByteArray) (r : ByteArray) (a : Option Addr) (c : Nat), CutOk mn mx b ∧ s.size ≤ 4096 ∧ (ruleI mn mx b).Pcs (strN s) (ps.map strN) (strN r) ∧ ps.length + r.size ≤ s.size ∧ e = .returned (.tuple #[.slice a ps.length c, .string r, .int .i64 0]) ∧ w.ownsRow w0.heap.size 9 1 (.slice a ps.length c) ps.length (ps.flatMap sC) ∧ Below w0.heap.size w0 w) ∨
  (∃ c : Nat, c ≠ 0 ∧ (¬ CutOk mn mx b ∨ 4096 < s.size) ∧ e = .returned (.tuple #[.slice none 0 0, .string ⟨#[]⟩, .int .i64 (c : Int)]) ∧ Below w0.heap.size w0 w)
theorem own_lower {w : World} {base base' : Nat} {e : TypeId} {k : Nat} {v : Value} {n : Nat} {xs : List Value} (h : w.ownsRow base e k v n xs) (hb : base' ≤ base) : w.ownsRow base' e k v n xs := by
  refine ⟨h.1, ?_⟩
  rcases h.2 with h | ⟨g, cap, cur, hv, hB, hg⟩
  · exact .inl h
  · exact .inr ⟨g, cap, cur, hv, by omega, hg⟩
set_option maxRecDepth 100000 in
set_option maxHeartbeats 2000000 in
theorem feed_any (mn mx b : Int) (s t : ByteArray) (w : World) (hs : s.size + t.size ≤ 9223372036854775807) :
    Calls Try.prog 39 #[.agg #[.int .i64 mn, .int .i64 mx, .int .i64 b], .string s, .string t] w (FeedEnd w mn mx b (s ++ t)) := by
  have hst : (s ++ t).size = s.size + t.size := by simp
  have HST := Lib.hid hst
  have HB0 := Lib.hid ((Below.refl w.heap.size w).alloc (Nat.le_refl _) (.cells #[.int .i64 mn, .int .i64 mx, .int .i64 b] 23))
  have HC0 : Hid ((w.alloc (.cells #[.int .i64 mn, .int .i64 mx, .int .i64 b] 23)).heap[w.heap.size]? = some (.cells #[.int .i64 mn, .int .i64 mx, .int .i64 b] 23 (0, 0))) := heap_alloc_new w _
  have HCK := Lib.hid fun u => ccheck_any mn mx b u
  have hs63 : (s.size : Int) + (t.size : Int) ≤ 9223372036854775807 := by omega
  clear hst
  go_enter Try.func39, Try.ntmps39
  go_wp2_with fail
  refine (HCK.out _).mono ?_
  rintro e w1 ⟨⟨rfl, hok⟩ | ⟨rfl, hbad⟩, hb1⟩
  · have HB1 := Lib.hid (Below.step HB0.out hb1)
    have hc := (hb1.block _ (lt_of_block HC0.out)).trans HC0.out
    have c0 := cell_of_row w1 w.heap.size 0 _ _ _ hc
    have c1 := cell_of_row w1 w.heap.size 1 _ _ _ hc
    have c2 := cell_of_row w1 w.heap.size 2 _ _ _ hc
    simp only [List.getElem?_toArray, List.getElem?_cons_zero, List.getElem?_cons_succ] at c0 c1 c2
    have HOK : Hid (CutOk mn mx b) := hok
    clear hb1 hc HC0
    by_cases p : 4096 < s.size + t.size
    · have f1 : (4096 : Int) < (s.size : Int) + (t.size : Int) := by omega
      go_wp2_with fail
      go_ret3
      exact .inr ⟨2, by decide, .inr (by rw [HST.out]; exact p), rfl, HB1.out⟩
    · have f1 : ¬ (4096 : Int) < (s.size : Int) + (t.size : Int) := by omega
      have HP : Hid (∀ u, Calls Try.prog 64 #[.agg #[.int .i64 mn, .int .i64 mx, .int .i64 b], .string (s ++ t)] u (PcEnd u (ruleI mn mx b) (s ++ t))) := fun u => by
        have := pieces_any mn.toNat mx.toNat b.toNat (s ++ t) u (by omega) (by rw [HST.out]; omega)
        unfold cutV at this
        rwa [show ((mn.toNat : Nat) : Int) = mn by omega, show ((mx.toNat : Nat) : Int) = mx by omega, show ((b.toNat : Nat) : Int) = b by omega] at this
      clear hok
      go_wp2_with fail
      refine (HP.out _).mono ?_
      rintro e w2 ⟨ps, r, a, c, hpcs, hl, rfl, hown, hb2⟩
      have HB2 := Lib.hid (Below.step HB1.out hb2)
      have HO := Lib.hid (own_lower hown HB1.out.size)
      have HPC := Lib.hid hpcs
      clear hpcs hown hb2
      go_wp2_with fail
      go_ret3
      exact .inl ⟨ps, r, a, c, HOK.out, by rw [HST.out]; omega, HPC.out, hl, rfl, HO.out, HB2.out⟩
  · have HB1 := Lib.hid (Below.step HB0.out hb1)
    have HBAD := Lib.hid hbad
    clear hb1 hbad HC0
    go_wp2_with fail
    go_ret3
    exact .inr ⟨1, by decide, .inl HBAD.out, rfl, HB1.out⟩
def CutEnd (w0 : World) (mn mx b : Int) (s : ByteArray) (e : Ending) (w : World) : Prop :=
  (∃ (cs : List ByteArray) (a : Option Addr) (c : Nat), CutOk mn mx b ∧ s.size ≤ 4096 ∧ (ruleI mn mx b).Cuts (strN s) (cs.map strN) ∧ cs.length ≤ s.size ∧ e = .returned (.tuple #[.slice a cs.length c, .int .i64 0]) ∧ w.ownsRow w0.heap.size 9 1 (.slice a cs.length c) cs.length (cs.flatMap sC) ∧ Below w0.heap.size w0 w) ∨
  (∃ c : Nat, c ≠ 0 ∧ (¬ CutOk mn mx b ∨ 4096 < s.size) ∧ e = .returned (.tuple #[.slice none 0 0, .int .i64 (c : Int)]) ∧ Below w0.heap.size w0 w)
theorem empty_append (s : ByteArray) : (⟨#[]⟩ : ByteArray) ++ s = s := by
  show ByteArray.empty ++ s = s
  simp
theorem str_nil_of {s : ByteArray} (h : s.size = 0) : s = ⟨#[]⟩ := by
  have h2 : strN s = [] := List.eq_nil_of_length_eq_zero (by rw [strN_length]; exact h)
  rw [← strOf_strN s, h2]
  rfl
theorem isEmpty_false {s : ByteArray} (h : s.size ≠ 0) : s.toList.isEmpty = false := by
  rw [Lib.toList_data]
  cases hd : s.data.toList with
  | nil => exfalso; apply h; have : s.data.size = 0 := by rw [← Array.length_toList, hd]; rfl
           exact this
  | cons a l => rfl
set_option maxRecDepth 100000 in
set_option maxHeartbeats 2000000 in
theorem cut_any (mn mx b : Int) (s : ByteArray) (w : World) (hs : s.size ≤ 9223372036854775807) :
    Calls Try.prog 11 #[.agg #[.int .i64 mn, .int .i64 mx, .int .i64 b], .string s] w (CutEnd w mn mx b s) := by
  obtain ⟨i0, hi0, hz0, hz1, hz2⟩ := info_parts info_str
  have HB0 := Lib.hid ((Below.refl w.heap.size w).alloc (Nat.le_refl _) (.cells #[.int .i64 mn, .int .i64 mx, .int .i64 b] 23))
  have HF := Lib.hid fun u => feed_any mn mx b ⟨#[]⟩ s u (by show 0 + s.size ≤ _; omega)
  rw [empty_append] at HF
  go_enter Try.func11, Try.ntmps11
  go_wp2_with fail
  refine (HF.out _).mono ?_
  rintro e w1 (⟨ps, r, a, c, hok, h4, hpcs, hl, rfl, hown, hb1⟩ | ⟨c, hc0, hbad, rfl, hb1⟩)
  · have HB1 := Lib.hid (Below.step HB0.out hb1)
    have HO := Lib.hid (own_lower hown HB0.out.size)
    have HPC := Lib.hid hpcs
    have HOK := Lib.hid hok
    have hw1 := HB1.out.size
    clear hpcs hown hb1 hok
    by_cases h0 : r.size = 0
    · have hr := str_nil_of h0
      subst hr
      have HCU : Hid ((ruleI mn mx b).Cuts (strN s) (ps.map strN)) := ⟨_, _, HPC.out, by unfold cutOf; rw [if_pos (show strN ⟨#[]⟩ = [] from rfl)]⟩
      clear h0
      go_wp2_with fail
      go_ret2
      exact .inl ⟨ps, a, c, HOK.out, h4, HCU.out, by omega, rfl, HO.out, HB1.out⟩
    · have f1 := isEmpty_false h0
      have HCU : Hid ((ruleI mn mx b).Cuts (strN s) ((ps ++ [r]).map strN)) := ⟨_, _, HPC.out, by
        unfold cutOf
        rw [if_neg (fun e => h0 (by rw [← strN_length, e]; rfl)), List.map_append]; rfl⟩
      have hr1 : 1 ≤ r.size := by omega
      have D1 := Lib.hid (cells_new_at w1 w1.heap.size rfl #[.string r] 9 (sC r) rfl)
      have D2 : Hid (∀ u ∈ sC r, u.oneCell' = true) := fun u hu => sC_one _ u hu
      have D3 : Hid (ps.length + 1 ≤ maxLen) := by show _ ≤ _; unfold maxLen; omega
      have D4 : Hid ((ps.length + 1) * 16 ≤ 140737488355328) := by show _ ≤ _; omega
      have D5 : Hid (w.heap.size ≤ (w1.alloc (.cells #[.string r] 9)).heap.size) := by show _ ≤ _; simp; omega
      clear h0
      go_wp2_with (at_builtin; refine wpList_append_own _ rfl _ _ 24 rfl w.heap.size 9 i0 (.string ⟨#[]⟩) 1 16 Try.underlying24 hi0 hz0 hz1 hz2 rfl (by decide) _ _ _ rfl (HO.out.alloc _) ⟨w1.heap.size, 0, none⟩ 1 1 (sC r) rfl rfl D1.out D2.out D3.out D4.out D5.out ?_)
      intro v' w2 hown' hgrow _
      have BW := Lib.hid (below_own ((HB1.out.alloc hw1 (.cells #[.string r] 9))) hgrow (by simp; omega) (HO.out.alloc _) (Nat.le_refl _))
      obtain ⟨oa2, oc2, rfl⟩ := own_form' hown'
      have OW : Hid (w2.ownsRow w.heap.size 9 1 (.slice oa2 (ps ++ [r]).length oc2) (ps ++ [r]).length ((ps ++ [r]).flatMap sC)) := by
        show w2.ownsRow _ _ _ _ _ _
        rw [List.length_append, sCs_snoc]
        exact hown'
      clear hown' hgrow
      go_wp2_with fail
      go_ret2
      exact .inl ⟨ps ++ [r], oa2, oc2, HOK.out, h4, HCU.out, by rw [List.length_append, List.length_singleton]; omega, by rw [List.length_append]; rfl, OW.out, BW.out⟩
  · have HB1 := Lib.hid (Below.step HB0.out hb1)
    have HBAD := Lib.hid hbad
    have f0 : ((c : Int) == 0) = false := beq_eq_false_iff_ne.2 (by omega)
    clear hb1 hbad
    go_wp2_with fail
    go_ret2
    exact .inr ⟨c, hc0, HBAD.out, rfl, HB1.out⟩
end Go.Proofs.Ytbmklkjjkjgehaa
