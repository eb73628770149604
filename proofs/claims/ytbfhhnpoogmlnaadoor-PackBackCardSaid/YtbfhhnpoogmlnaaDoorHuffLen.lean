/- The walk of huff.Lengths. -/
import Derived.Test.YtbfhhnpoogmlnaaDoorHuffPop
import Derived.Test.YtbfhhnpoogmlnaaDoorHuffCat
import Derived.Test.YtbfhhnpoogmlnaaDoorHuffCodes
import Derived.Test.YtbfhhnpoogmlnaaDoorHuffLW
import Derived.Test.YtbfhhnpoogmlnaaDoorHuffTree2
namespace Go.Proofs.YtbfhhnpoogmlnaaDoor
open Go.RowKit Plain
set_option linter.unusedVariables false
set_option linter.unusedSimpArgs false
/-- a tree's signs in memory -/
def SyT (og : Nat) (u : World) (t : TV) : Prop := SAt 1 nI u t.2.2.1 t.2.2.2.2 ∧ ∀ ad, t.2.2.1 = some ad → ad.block ≠ og ∧ ∃ cs fr, u.heap[ad.block]? = some (.cells cs 3 fr)
theorem SyT.kp {og : Nat} {u u' : World} {t : TV} (h : SyT og u t) (hk : Kp u u') : SyT og u' t := by
  refine ⟨h.1.keep hk.1 fun ad e => ?_, fun ad e => ?_⟩
  · obtain ⟨_, cs, fr, hr⟩ := h.2 ad e
    exact hk.2 _ _ _ _ hr (by decide) (by decide)
  · obtain ⟨h1, cs, fr, hr⟩ := h.2 ad e
    exact ⟨h1, cs, fr, (hk.2 _ _ _ _ hr (by decide) (by decide)).trans hr⟩
theorem SyT.below {og : Nat} {u u' : World} {t : TV} (h : SyT og u t) (hb : Below u.heap.size u u') : SyT og u' t := h.kp (Kp.below hb)
theorem SyT.set {og : Nat} {u u' : World} {t : TV} (h : SyT og u t) (hs : u.heap.size ≤ u'.heap.size) (hb : ∀ k, k ≠ og → u'.heap[k]? = u.heap[k]?) : SyT og u' t :=
  ⟨h.1.keep hs fun ad e => hb _ (h.2 ad e).1, fun ad e => by
    obtain ⟨h1, cs, fr, hr⟩ := h.2 ad e
    exact ⟨h1, cs, fr, (hb _ h1).trans hr⟩⟩
/-- the key of a tree -/
def keyT (t : TV) : Tr := (t.1, t.2.2.2.2)
def natF (f : List Int) : List Nat := f.map Int.toNat
theorem at0_nat (f : List Int) (i : Nat) (h : i < f.length) : at0 (natF f) i = f[i].toNat := by
  simp [at0, natF, List.getD_eq_getElem?_getD, List.getElem?_eq_getElem h]
def psyms (F : List Nat) (i : Nat) : List Nat := (List.range i).filter fun s => decide (0 < at0 F s)
theorem psyms_succ (F : List Nat) (i : Nat) : psyms F (i + 1) = if 0 < at0 F i then psyms F i ++ [i] else psyms F i := by
  unfold psyms
  rw [List.range_succ, List.filter_append]
  by_cases h : 0 < at0 F i
  · rw [if_pos h]; simp [h]
  · rw [if_neg h]; simp [h]
theorem psyms_len (F : List Nat) (i : Nat) : (psyms F i).length ≤ i := by
  unfold psyms
  refine Nat.le_trans (List.length_filter_le _ _) ?_
  rw [List.length_range]; exact Nat.le_refl _
theorem tot_bound {F : List Nat} {n : Nat} (hl : F.length = n) (hn : n ≤ 256) (h : ∀ i, i < n → at0 F i ≤ 1048576) : sumS (at0 F) (syms F) ≤ 268435456 := by
  have h1 : sumS (at0 F) (syms F) ≤ sumS (fun _ => 1048576) (syms F) := sumS_le fun s hs => h s (by rw [← hl]; exact at0_lt (syms_mem.1 hs))
  have h2 : ∀ (S : List Nat), sumS (fun _ => 1048576) S = S.length * 1048576 := fun S => by
    induction S with
    | nil => rfl
    | cons a S ih => rw [sumS_cons, ih, List.length_cons, Nat.add_mul]; omega
  have h3 : (syms F).length ≤ n := by
    unfold syms
    refine Nat.le_trans (List.length_filter_le _ _) ?_
    rw [List.length_range, hl]; exact Nat.le_refl _
  rw [h2] at h1
  omega
/-- the forest, or all done -/
def Fst (F : List Nat) (L : List TV) (o : List Nat) : Prop := (2 ≤ (syms F).length ∧ HI F (L.map keyT) o) ∨ ((syms F).length ≤ 1 ∧ L.length ≤ 1 ∧ FinH F o)
theorem Fst.fin {F : List Nat} {L : List TV} {o : List Nat} (h : Fst F L o) (ht : sumS (at0 F) (syms F) ≤ 268435456) (hl : L.length ≤ 1) : FinH F o := by
  rcases h with ⟨h2, h⟩ | ⟨_, _, h⟩
  · match L, hl with
    | [], _ =>
      have := h.sy.length_eq
      simp at this
      omega
    | [t], _ => exact h.many ht h2
  · exact h
theorem HI.le {f o : List Nat} {F : List Tr} (h : HI f F o) (hf : sumS (at0 f) (syms f) ≤ 268435456) {t : Tr} (ht : t ∈ F) : t.1 ≤ 268435456 := by
  have h3 := sum_le_of_mem ht
  rw [HI.sum (o := o) h.wt, sumS_perm h.sy] at h3
  omega
theorem HI.len2 {f o : List Nat} {a b : Tr} {F : List Tr} (h : HI f (a :: b :: F) o) : a.2.length + b.2.length ≤ (syms f).length := by
  have h1 := h.sy.length_eq
  simp only [List.flatMap_cons, List.length_append] at h1
  omega
theorem syms_len (F : List Nat) : (syms F).length ≤ F.length := by
  unfold syms
  refine Nat.le_trans (List.length_filter_le _ _) ?_
  rw [List.length_range]; exact Nat.le_refl _
theorem SAt.cellN {w : World} {a : Option Addr} {l : List Nat} (h : SAt 1 nI w a l) (i : Nat) (hi : i < l.length) (x : Nat) (hx : l[i] = x) : ∃ g off, a = some ⟨g, off, none⟩ ∧ g < w.heap.size ∧ w.cell? ⟨g, off + i, none⟩ = some (.int .i64 (x : Int)) := by
  obtain ⟨g, off, e, hg, hr⟩ := h i hi
  subst hx
  have := hr 0 _ rfl
  exact ⟨g, off, e, hg, by rwa [Nat.mul_one, Nat.add_zero] at this⟩
theorem incs_le : ∀ (S o : List Nat) (s : Nat), at0 (incs o S) s ≤ at0 o s + S.length
  | [], o, s => Nat.le_refl _
  | x :: S, o, s => by
    have h := incs_le S (inc o x) s
    have h2 : at0 (inc o x) s ≤ at0 o s + 1 := by
      rcases Nat.lt_or_ge x o.length with hx | hx
      · rw [inc_at hx]; split <;> omega
      · rw [inc, List.set_eq_of_length_le hx]; omega
    show at0 (incs (inc o x) S) s ≤ _
    rw [List.length_cons]
    omega
theorem incs_small {f o : List Nat} {F : List Tr} (h : HI f F o) (hf : sumS (at0 f) (syms f) ≤ 268435456) (S : List Nat) (j : Nat) (hS : S.length ≤ 256) (s : Nat) : (incs o (S.take j)).getD s 0 ≤ 100000 := by
  have h1 := incs_le (S.take j) o s
  have h2 : at0 o s ≤ 47 := by
    rcases Nat.eq_zero_or_pos (at0 f s) with h0 | h0
    · rw [h.ze s h0]; omega
    · obtain ⟨t, ht, hs⟩ := List.mem_flatMap.1 (h.sy.mem_iff.2 (syms_mem.2 h0))
      have := h.deep hf ht hs
      omega
  rw [List.length_take] at h1
  show at0 _ s ≤ _
  omega
def lenOfV : Value → Nat
  | .slice _ n _ => n
  | _ => 0
def LgEnd (w0 : World) (f : List Int) (e : Ending) (w : World) : Prop := Below w0.heap.size w0 w ∧
  (((f.length < 1 ∨ 256 < f.length ∨ f.any wbad = true) ∧ e = .returned (.tuple #[.slice none 0 0, .int .i64 1])) ∨
   ((1 ≤ f.length ∧ f.length ≤ 256 ∧ f.any wbad = false) ∧ ∃ g o, e = .returned (.tuple #[.slice (some ⟨g, 0, none⟩) f.length f.length, .int .i64 0]) ∧ w0.heap.size ≤ g ∧ w.heap[g]? = some (.cells (nC o) 3 (0, 0)) ∧ FinH (natF f) o))
set_option maxRecDepth 100000 in
set_option maxHeartbeats 4000000 in
theorem lengths_any (a : Option Addr) (cap : Nat) (f : List Int) (w : World) (h : SAt 1 iC w a f) (hl : f.length ≤ 9223372036854775807) :
    Calls Tryd.prog 62 #[.slice a f.length cap] w (LgEnd w f) := by
  have HS := Lib.hid h
  have HCF := Lib.hid fun wx (hx : SAt 1 iC wx a f) => containsIntL_any wbad lbad_any a cap f wx hx hl
  have hmk := fun n hn u => run_make_ints n hn u
  have HPU := Lib.hid fun B0 hb A cap L x u h1 h2 h3 h4 h5 => push_any B0 hb A cap L x u h1 h2 h3 h4 h5
  have HPO := Lib.hid fun B0 hb A cap L u h1 h2 h3 h4 h5 => pop_any B0 hb A cap L u h1 h2 h3 h4 h5
  clear h
  go_enter Tryd.func62, Tryd.ntmps62
  by_cases c1 : f.length < 1
  · have n1 : (f.length : Int) < 1 := by omega
    go_wp2_with fail
    go_ret2
    exact ⟨Below.refl _ _, .inl ⟨.inl c1, rfl⟩⟩
  by_cases c2 : 256 < f.length
  · have n1 : ¬ (f.length : Int) < 1 := by omega
    have n2 : (f.length : Int) > 256 := by omega
    go_wp2_with fail
    go_ret2
    exact ⟨Below.refl _ _, .inl ⟨.inr (.inl c2), rfl⟩⟩
  have n1 : ¬ (f.length : Int) < 1 := by omega
  have n2 : ¬ (f.length : Int) > 256 := by omega
  have b1 : 1 ≤ f.length := by omega
  have b2 : f.length ≤ 256 := by omega
  clear c1 c2
  have HCC := Lib.hid (HCF.out w HS.out)
  go_wp2_with fail
  refine HCC.out.mono ?_
  rintro e w1 ⟨rfl, hb1⟩
  have HB1 := Lib.hid hb1
  clear hb1 HCC
  by_cases c3 : f.any wbad = true
  · rw [c3]
    have HC3 := Lib.hid c3
    clear c3
    go_wp2_with fail
    go_ret2
    exact ⟨HB1.out, .inl ⟨.inr (.inr HC3.out), rfl⟩⟩
  have c4 : f.any wbad = false := by simpa using c3
  rw [c4]
  have HC4 := Lib.hid c4
  have HFB : Hid (∀ (i : Nat) (h : i < f.length), 0 ≤ f[i] ∧ f[i] ≤ 1048576) := fun i h => by
    have := List.any_eq_false.1 c4 f[i] (List.getElem_mem h)
    simp only [wbad, decide_eq_true_eq] at this
    omega
  clear c3 c4
  have HH0 : Hid (HpS w1.heap.size w1.heap.size none 0 [] (w1.alloc (.cells #[.slice none 0 0, .func (.func 106) #[] #[]] 184))) := ⟨heap_alloc_new w1 _, World.ownsRow_nil _ _ _ _, Nat.le_refl _⟩
  have HBA : Hid (Below w1.heap.size w1 (w1.alloc (.cells #[.slice none 0 0, .func (.func 106) #[] #[]] 184))) := (Below.refl _ _).alloc (Nat.le_refl _) _
  obtain ⟨F, hF⟩ : ∃ F, natF f = F := ⟨_, rfl⟩
  have HFE := Lib.hid hF
  have HFl : Hid (F.length = f.length) := by show _ = _; rw [← hF]; simp [natF]
  have HFa : Hid (∀ (i : Nat) (h : i < f.length), at0 F i = f[i].toNat) := fun i h => by rw [← hF]; exact at0_nat f i h
  clear hF
  have HTOT : Hid (sumS (at0 F) (syms F) ≤ 268435456) := tot_bound HFl.out (by omega) fun i h => by
    have h2 := HFB.out i h
    rw [HFa.out i h]
    omega
  go_wp2_with fail
  go_loopw [29] (fun iv wr => ∃ (i : Nat) (A : Option Addr) (cap : Nat) (L : List TV), iv = .int .i64 (i : Int) ∧ i ≤ f.length ∧ Hid (HpS w1.heap.size w1.heap.size A cap L wr) ∧ Hid (Hp leT L) ∧ Hid (Below w1.heap.size w1 wr) ∧ Hid (∀ t ∈ L, OkT t ∧ t.2.2.2.2 = [t.2.1]) ∧ Hid (∀ og, wr.heap.size ≤ og → ∀ t ∈ L, SyT og wr t) ∧ Hid ((L.map keyT).Perm ((psyms F i).map (leaf F)))) (fun iv _ => f.length - (intOf iv).toNat)
  case atStart => exact ⟨0, none, 0, [], rfl, Nat.zero_le _, HH0, Lib.hid (fun i _ h => absurd h (Nat.not_lt_zero _)), HBA, Lib.hid (fun t ht => absurd ht (List.not_mem_nil)), Lib.hid (fun og _ t ht => absurd ht (List.not_mem_nil)), Lib.hid (.refl _)⟩
  case round =>
    clear HH0 HBA
    obtain ⟨i, A, cap2, L, rfl, hi, HHS, HHP, HBW, HOK, HSY, HPE⟩ := hrel
    have m0 : (0 : Int) ≤ (i : Int) := Int.natCast_nonneg _
    have hLn : L.length ≤ 256 := by
      have h1 := HPE.out.length_eq
      have h2 := psyms_len F i
      simp only [List.length_map] at h1
      omega
    by_cases hil : i < f.length
    · have m1 : (i : Int) < (f.length : Int) := by omega
      obtain ⟨g, off, ha, hg, c0⟩ := ((HS.out.below HB1.out).below HBW.out).int i hil
      subst ha
      obtain ⟨xn, hxn⟩ : ∃ xn : Nat, f[i] = (xn : Int) := ⟨f[i].toNat, by have := HFB.out i hil; omega⟩
      have hxb : xn ≤ 1048576 := by have := HFB.out i hil; omega
      have HXA : Hid (at0 F i = xn) := by show _ = _; rw [HFa.out i hil, hxn]; rfl
      rw [hxn] at c0
      clear hg hxn
      by_cases hx0 : 0 < xn
      · have m2 : (xn : Int) > 0 := by omega
        have HBA := Lib.hid ((Below.refl wr.heap.size wr).alloc (Nat.le_refl _) (.cells #[.int .i64 (i : Int)] 3))
        have HNR : Hid ((wr.alloc (.cells #[.int .i64 (i : Int)] 3)).heap[wr.heap.size]? = some (.cells #[.int .i64 (i : Int)] 3 (0, 0))) := heap_alloc_new wr _
        go_wp2_with fail
        refine (HPU.out w1.heap.size w1.heap.size A cap2 L (xn, i, some ⟨wr.heap.size, 0, none⟩, 1, [i]) _ (HHS.out.below HBA.out) HHP.out (by omega) (fun t ht => (HOK.out t ht).1) ⟨by show xn ≤ _; omega, by show i ≤ _; omega, by show 1 ≤ _; decide⟩).mono ?_
        rintro e w3 ⟨rfl, hb3, hk3, A3, cap3, L3, hh3, hp3, hhp3⟩
        have HH3 := Lib.hid hh3
        have HP3 := Lib.hid hhp3
        have HB3 := Lib.hid (Below.trans HBW.out (Below.trans (HBA.out.mono HBW.out.size) hb3))
        have HO3 : Hid (∀ t ∈ L3, OkT t ∧ t.2.2.2.2 = [t.2.1]) := fun t ht => by
          rcases List.mem_append.1 (hp3.mem_iff.1 ht) with h | h
          · exact HOK.out t h
          · rw [List.mem_singleton.1 h]
            exact ⟨⟨by show xn ≤ _; omega, by show i ≤ _; omega, by show 1 ≤ _; decide⟩, rfl⟩
        have HS3 : Hid (∀ og, w3.heap.size ≤ og → ∀ t ∈ L3, SyT og w3 t) := fun og hog t ht => by
          have hsz := hk3.1
          have hsz2 : wr.heap.size < (wr.alloc (.cells #[.int .i64 (i : Int)] 3)).heap.size := by simp
          rcases List.mem_append.1 (hp3.mem_iff.1 ht) with h | h
          · exact ((HSY.out og (by omega) t h).below HBA.out).kp hk3
          · rw [List.mem_singleton.1 h]
            have h0 : SyT og (wr.alloc (.cells #[.int .i64 (i : Int)] 3)) (xn, i, some ⟨wr.heap.size, 0, none⟩, 1, [i]) := by
              refine ⟨fun q hq => ?_, fun ad e => ?_⟩
              · obtain rfl : q = 0 := by simpa using hq
                refine ⟨wr.heap.size, 0, rfl, lt_of_block HNR.out, fun jj v hv => ?_⟩
                rw [cell_of_row _ _ _ _ _ _ HNR.out]
                match jj, hv with
                | 0, hv => exact hv
                | jj + 1, hv => simp [nI] at hv
              · injection e with e
                subst e
                exact ⟨by simp only; omega, _, _, HNR.out⟩
            exact h0.kp hk3
        have HE3 : Hid ((L3.map keyT).Perm ((psyms F (i + 1)).map (leaf F))) := by
          have h1 := hp3.map keyT
          rw [List.map_append] at h1
          refine h1.trans ?_
          rw [psyms_succ, if_pos (by rw [HXA.out]; exact hx0), List.map_append]
          refine (HPE.out.append_right _).trans ?_
          have e : [((xn, i, some ⟨wr.heap.size, 0, none⟩, 1, [i]) : TV)].map keyT = [i].map (leaf F) := by
            simp only [List.map_cons, List.map_nil, keyT, leaf, HXA.out]
          rw [e]
        clear hb3 hk3 hh3 hp3 hhp3 c0
        go_wp2_with fail
        go_roundw
        case rel => exact ⟨i + 1, A3, cap3, L3, by go_num, by omega, HH3, HP3, HB3, HO3, HS3, HE3⟩
        case measure => simp [intOf]; omega
      · obtain rfl : xn = 0 := by omega
        have HE3 : Hid ((L.map keyT).Perm ((psyms F (i + 1)).map (leaf F))) := by
          show (L.map keyT).Perm _
          rw [psyms_succ, if_neg (by rw [HXA.out]; omega)]
          exact HPE.out
        go_wp2_with fail
        go_roundw
        case rel => exact ⟨i + 1, A, cap2, L, by go_num, by omega, HHS, HHP, HBW, HOK, HSY, HE3⟩
        case measure => simp [intOf]; omega
    · have m1 : ¬ (i : Int) < (f.length : Int) := by omega
      have HSP : Hid (psyms F i = syms F) := by
        show _ = _
        have e : i = F.length := by rw [HFl.out]; omega
        rw [e]
        rfl
      have HPS : Hid ((L.map keyT).Perm ((syms F).map (leaf F))) := by have h := HPE.out; rw [HSP.out] at h; exact h
      clear HPE HSP
      obtain ⟨wo, rfl⟩ : ∃ wo : World, wo = wr := ⟨_, rfl⟩
      have hmk2 := hmk f.length (by omega) wo
      have HBO := Lib.hid ((Below.refl wo.heap.size wo).alloc (Nat.le_refl _) (.cells (nC (List.replicate f.length 0)) 3))
      have HOG : Hid ((wo.alloc (.cells (nC (List.replicate f.length 0)) 3)).heap[wo.heap.size]? = some (.cells (nC (List.replicate f.length 0)) 3 (0, 0))) := heap_alloc_new wo _
      have HHO := Lib.hid (HHS.out.below HBO.out)
      have HBX := Lib.hid (HBW.out.trans (HBO.out.mono HBW.out.size))
      have HSX : Hid (∀ t ∈ L, SyT wo.heap.size (wo.alloc (.cells (nC (List.replicate f.length 0)) 3)) t) := fun t ht => (HSY.out _ (Nat.le_refl _) t ht).below HBO.out
      have HHI : Hid (HI F (L.map keyT) (List.replicate f.length 0)) := by have h := HI.start F; rw [HFl.out] at h; exact h.perm HPS.out.symm
      have r0 := cell_of_row _ _ 0 _ _ _ HHO.out.row
      simp only [List.getElem?_toArray, List.getElem?_cons_zero] at r0
      have HW1 : Hid (w1.heap.size ≤ wo.heap.size) := HBW.out.size
      have hLS : L.length = (syms F).length := by have h := HPS.out.length_eq; simpa using h
      have HLS := Lib.hid hLS
      clear hLS hmk
      by_cases hL1 : L.length = 1
      · have hL1i : (L.length : Int) = 1 := by omega
        obtain ⟨g, hA, hgB, hgh, _, _, _⟩ := HHO.out.addr (by omega)
        subst hA
        obtain ⟨t, hLt⟩ : ∃ t, L = [t] := List.length_eq_one_iff.1 hL1
        obtain ⟨s, hss⟩ : ∃ s, syms F = [s] := List.length_eq_one_iff.1 (by have h := HLS.out; omega)
        have hts : t.2.1 = s := by
          have h1 := HPS.out
          rw [hLt, hss] at h1
          simp only [List.map_cons, List.map_nil] at h1
          have h2 := List.perm_singleton.1 h1.symm
          simp only [List.cons.injEq, and_true] at h2
          have h3 := (HOK.out t (by rw [hLt]; exact List.mem_singleton.2 rfl)).2
          have h4 : (leaf F s).2 = (keyT t).2 := by rw [h2]
          have h5 : [s] = t.2.2.2.2 := h4
          rw [h3] at h5
          injection h5 with h5
          exact h5.symm
        have hsl : s < f.length := by
          have := at0_lt (syms_mem.1 (by rw [hss]; exact List.mem_singleton.2 rfl : s ∈ syms F))
          rw [HFl.out] at this
          exact this
        have k1 : (wo.alloc (.cells (nC (List.replicate f.length 0)) 3)).cell? ⟨g, 1, none⟩ = some (.int .i64 (s : Int)) := by
          have h := HHO.out.range 0 (by omega) 1 _ rfl
          simp only [hLt, List.getElem_cons_zero, hts] at h
          simpa using h
        have k2 := cell_of_row _ _ s _ _ _ HOG.out
        rw [nC_get _ s (by rw [List.length_replicate]; exact hsl)] at k2
        have k3 := frozen_of_row _ _ s _ _ HOG.out
        have HSSY := Lib.hid hss
        have ms0 : (0 : Int) ≤ (s : Int) := Int.natCast_nonneg _
        have ms1 : (s : Int) < (f.length : Int) := by omega
        have HOW : Hid ((wo.alloc (.cells ((nC (List.replicate f.length 0)).setIfInBounds s (.int .i64 1)) 3)).heap[wo.heap.size]? = some (.cells (nC ((List.replicate f.length 0).set s 1)) 3 (0, 0))) := by
          have h := heap_alloc_new wo (.cells ((nC (List.replicate f.length 0)).setIfInBounds s (.int .i64 1)) 3)
          have e := nC_set (List.replicate f.length 0) s 1
          have e2 : ((1 : Nat) : Int) = 1 := rfl
          rw [e2] at e
          rw [e] at h
          rw [e]
          exact h
        have HBZ := Lib.hid (HBW.out.trans (((Below.refl wo.heap.size wo).alloc (Nat.le_refl _) (.cells ((nC (List.replicate f.length 0)).setIfInBounds s (.int .i64 1)) 3)).mono HBW.out.size))
        have HRZ : Hid ((wo.alloc (.cells ((nC (List.replicate f.length 0)).setIfInBounds s (.int .i64 1)) 3)).heap[w1.heap.size]? = some (.cells (hpV (some ⟨g, 0, none⟩) L.length cap2) 184 (0, 0))) := (Below.heap_alloc wo _ _ (lt_of_block HHS.out.row)).trans HHS.out.row
        clear hLt hss hts hgB hgh
        go_wp2_with fail
        have HBZ2 : Hid (Below w1.heap.size w1 (wo.alloc (.cells ((nC (List.replicate f.length 0)).setIfInBounds s (.int .i64 1)) 3))) := HBZ.out
        clear HBZ
        generalize wo.alloc (.cells ((nC (List.replicate f.length 0)).setIfInBounds s (.int .i64 1)) 3) = WZ at *
        go_loopw [] (fun wr => wr = WZ) (fun _ => 0)
        case atStart => rfl
        case round =>
          obtain rfl := hrel
          have r9 := cell_of_row _ _ 0 _ _ _ HRZ.out
          simp only [List.getElem?_toArray, List.getElem?_cons_zero] at r9
          have hL1j : ¬ (L.length : Int) > 1 := by omega
          go_wp2_with fail
          go_ret2
          refine ⟨Below.step HB1.out HBZ2.out, .inr ⟨⟨b1, b2, HC4.out⟩, wo.heap.size, _, rfl, Nat.le_trans HB1.out.size HW1.out, HOW.out, ?_⟩⟩
          have h := FinH.one F s HSSY.out
          rw [HFl.out] at h
          rw [HFE.out]
          exact h
      · have hL1i : ¬ (L.length : Int) = 1 := by omega
        have HFS : Hid (Fst F L (List.replicate f.length 0)) := by
          rcases Nat.lt_or_ge 1 L.length with h | h
          · exact .inl ⟨by have h2 := HLS.out; omega, HHI.out⟩
          · refine .inr ⟨by have h2 := HLS.out; omega, by omega, ?_⟩
            have h3 := FinH.none F (by have h2 := HLS.out; omega)
            rw [HFl.out] at h3
            exact h3
        have HOKO : Hid (∀ t ∈ L, OkT t) := fun t ht => (HOK.out t ht).1
        go_wp2_with fail
        generalize wo.alloc (.cells (nC (List.replicate f.length 0)) 3) = WZ at *
        generalize wo.heap.size = og at *
        clear r0 hmk2
        go_loopw [] (fun wr => ∃ (A : Option Addr) (cap : Nat) (L : List TV) (o : List Nat), L.length ≤ 256 ∧ Hid (HpS w1.heap.size w1.heap.size A cap L wr) ∧ Hid (Hp leT L) ∧ Hid (Below w1.heap.size w1 wr) ∧ Hid (∀ t ∈ L, OkT t) ∧ Hid (∀ t ∈ L, SyT og wr t) ∧ Hid (wr.heap[og]? = some (.cells (nC o) 3 (0, 0))) ∧ Hid (Fst F L o)) (fun wr => lenOfV ((wr.cell? ⟨w1.heap.size, 0, none⟩).getD undef))
        case atStart => exact ⟨A, cap2, L, _, hLn, HHO, HHP, HBX, HOKO, HSX, HOG, HFS⟩
        case round =>
          clear HHO HHP HBX HOKO HSX HOG HFS hL1 hL1i hLn HHI HPS HLS HOK
          obtain ⟨A, cap2, L, o, hLn, HHS, HHP, HBW, HOK, HSY, HOG, HFS⟩ := hrel
          have r0 := cell_of_row _ _ 0 _ _ _ HHS.out.row
          simp only [List.getElem?_toArray, List.getElem?_cons_zero] at r0
          by_cases hL : 1 < L.length
          · have m2 : (L.length : Int) > 1 := by omega
            have HRM := Lib.hid (cell_of_row _ _ 0 _ _ _ HHS.out.row)
            go_wp2_with fail
            refine (HPO.out w1.heap.size w1.heap.size A cap2 L wr HHS.out HHP.out (by omega) (by omega) HOK.out).mono ?_
            rintro e u1 ⟨x, rfl, hb1, hk1, A1, cap1, L1, hh1, hpe1, hhp1, hmin1⟩
            have hl1 : L.length = L1.length + 1 := by have h := hpe1.length_eq; simpa using h
            have HH1 := Lib.hid hh1
            have HP1 := Lib.hid hhp1
            have HE1 := Lib.hid hpe1
            have HM1 := Lib.hid hmin1
            have HBU := Lib.hid (HBW.out.trans hb1)
            have HKU := Lib.hid hk1
            have hl1b : 0 < L1.length := by omega
            have hl1c : L1.length ≤ 256 := by omega
            have HL1 := Lib.hid hl1
            have HOK1 : Hid (∀ t ∈ L1, OkT t) := fun t ht => HOK.out t (hpe1.mem_iff.2 (List.mem_cons_of_mem _ ht))
            clear hb1 hk1 hh1 hpe1 hhp1 hmin1 hl1
            go_wp2_with fail
            refine (HPO.out w1.heap.size w1.heap.size A1 cap1 L1 u1 HH1.out HP1.out hl1b (by omega) HOK1.out).mono ?_
            rintro e u2 ⟨y, rfl, hb2, hk2, A2, cap3, L2, hh2, hpe2, hhp2, hmin2⟩
            have hl2 : L1.length = L2.length + 1 := by have h := hpe2.length_eq; simpa using h
            have HH2 := Lib.hid hh2
            have HP2 := Lib.hid hhp2
            have HE2 := Lib.hid hpe2
            have HM2 := Lib.hid hmin2
            have HBU2 := Lib.hid (HBU.out.trans hb2)
            have HKU2 := Lib.hid (HKU.out.trans hk2)
            have hl2c : L2.length ≤ 254 := by have h := HL1.out; omega
            have HL2 : Hid (L.length = L2.length + 2) := by have h := HL1.out; show _ = _; omega
            clear hb2 hk2 hh2 hpe2 hhp2 hmin2 hl2 HH1 HP1 HBU HKU HL1
            obtain ⟨xw, xm, xa, xc, xs⟩ := x
            obtain ⟨yw, ym, ya, yc, ys⟩ := y
            simp only [hC]
            go_wp2_with fail
            have HX3 := Lib.hid (heap_twoK u2 (.cells #[.int .i64 (xw : Int), .int .i64 (xm : Int), .slice xa xs.length xc] 179) (.cells #[.int .i64 (yw : Int), .int .i64 (ym : Int), .slice ya ys.length yc] 179))
            have HB3 := Lib.hid (((Below.refl u2.heap.size u2).alloc (Nat.le_refl _) (.cells #[.int .i64 (xw : Int), .int .i64 (xm : Int), .slice xa xs.length xc] 179)).alloc (by simp) (.cells #[.int .i64 (yw : Int), .int .i64 (ym : Int), .slice ya ys.length yc] 179))
            have HK3 := Lib.hid (HKU2.out.trans (Kp.below HB3.out))
            have HBU3 := Lib.hid (HBU2.out.trans (HB3.out.mono HBU2.out.size))
            have HH3 := Lib.hid (HH2.out.below HB3.out)
            have HSX3 : Hid (SyT og _ (xw, xm, xa, xc, xs)) := (HSY.out _ (HE1.out.mem_iff.2 List.mem_cons_self)).kp HK3.out
            have HSY3 : Hid (SyT og _ (yw, ym, ya, yc, ys)) := (HSY.out _ (HE1.out.mem_iff.2 (List.mem_cons_of_mem _ (HE2.out.mem_iff.2 List.mem_cons_self)))).kp HK3.out
            have HSL3 : Hid (∀ t ∈ L2, SyT og _ t) := fun t ht => (HSY.out t (HE1.out.mem_iff.2 (List.mem_cons_of_mem _ (HE2.out.mem_iff.2 (List.mem_cons_of_mem _ ht))))).kp HK3.out
            have HOG3 := Lib.hid ((HK3.out.2 _ _ _ _ HOG.out (by decide) (by decide)).trans HOG.out)
            have HHI : Hid (HI F (keyT (xw, xm, xa, xc, xs) :: keyT (yw, ym, ya, yc, ys) :: L2.map keyT) o) := by
              rcases HFS.out with ⟨_, h⟩ | ⟨_, h, _⟩
              · exact h.perm ((HE1.out.map keyT).trans ((HE2.out.map keyT).cons _))
              · omega
            have H2S : Hid (2 ≤ (syms F).length) := by
              rcases HFS.out with ⟨h, _⟩ | ⟨_, h, _⟩
              · exact h
              · omega
            have HOX := Lib.hid (HOK.out _ (HE1.out.mem_iff.2 List.mem_cons_self))
            have HOY := Lib.hid (HOK.out _ (HE1.out.mem_iff.2 (List.mem_cons_of_mem _ (HE2.out.mem_iff.2 List.mem_cons_self))))
            have HOL : Hid (∀ t ∈ L2, OkT t) := fun t ht => HOK.out t (HE1.out.mem_iff.2 (List.mem_cons_of_mem _ (HE2.out.mem_iff.2 (List.mem_cons_of_mem _ ht))))
            have hwx : xw ≤ 268435456 := HI.le HHI.out HTOT.out List.mem_cons_self
            have hwy : yw ≤ 268435456 := HI.le HHI.out HTOT.out (List.mem_cons_of_mem _ List.mem_cons_self)
            have hs256 : (syms F).length ≤ 256 := by have h := syms_len F; rw [HFl.out] at h; omega
            have hlx : xs.length + ys.length ≤ 256 := by have h := HI.len2 HHI.out; simp only [keyT] at h; omega
            have ew : IntKind.i64.wrap ((xw : Int) + (yw : Int)) = (xw : Int) + (yw : Int) := wraps_i64 _ (by omega) (by omega)
            have HIT : Hid ((Tryd.prog.info? 179).map (·.size) = some 3) := by show _ = _; kernel_rfl
            have HXR := Lib.hid HX3.out.1
            have HYR := Lib.hid HX3.out.2
            have HXY : Hid (xw ≤ yw ∧ ∀ r ∈ L2, yw ≤ r.1) := by
              refine ⟨?_, fun r hr => ?_⟩
              · have h := HM1.out _ (HE1.out.mem_iff.2 (List.mem_cons_of_mem _ (HE2.out.mem_iff.2 List.mem_cons_self)))
                unfold leT at h
                simp only at h
                omega
              · have h := HM2.out r (HE2.out.mem_iff.2 (List.mem_cons_of_mem _ hr))
                unfold leT at h
                simp only at h
                omega
            clear HX3 HK3 HB3 HH2 HBU2 HKU2 HM1 HM2 HE1 HE2 HOK HOK1 HSY HFS HOG HHS HHP HBW r0
            generalize (u2.alloc (.cells #[.int .i64 (xw : Int), .int .i64 (xm : Int), .slice xa xs.length xc] 179)).alloc (.cells #[.int .i64 (yw : Int), .int .i64 (ym : Int), .slice ya ys.length yc] 179) = u3 at *
            refine wp_region_noPanic ?_
            refine wp_region_held_drew (S := fun v => Below u3.heap.size u3 v) (by kernel_rfl) (Below.refl _ _).drew (fun hS0 => ?_)
            have HS0 := Lib.hid hS0
            clear hS0
            have HSv0 : Hid (Below u3.heap.size u3 u3.drew) := (Below.refl _ _).drew
            generalize u3.drew = v0 at *
            refine take_val 0 (.pointer (some ⟨u2.heap.size, 0, none⟩)) rfl (by kernel_rfl) (by kernel_rfl) (by kernel_rfl) (fun _ _ _ _ h => h) (by rfl) rfl (fun wz hS => by go_simp) HS0.out ?_
            try simp only [List.set_cons_zero, List.set_cons_succ]
            refine take_val 1 (.int .i64 (xw : Int)) rfl (by kernel_rfl) (by kernel_rfl) (by kernel_rfl) (fun _ _ _ _ h => h) (by rfl) rfl (fun wz hS => by have hz := cell_of_row _ _ 0 _ _ _ ((hS.block _ (lt_of_block HXR.out)).trans HXR.out); simp only [List.getElem?_toArray, List.getElem?_cons_zero, List.getElem?_cons_succ] at hz; go_simp) HS0.out ?_
            try simp only [List.set_cons_zero, List.set_cons_succ]
            refine take_val 2 (.pointer (some ⟨u2.heap.size + 1, 0, none⟩)) rfl (by kernel_rfl) (by kernel_rfl) (by kernel_rfl) (fun _ _ _ _ h => h) (by rfl) rfl (fun wz hS => by go_simp) HS0.out ?_
            try simp only [List.set_cons_zero, List.set_cons_succ]
            refine take_val 3 (.int .i64 (yw : Int)) rfl (by kernel_rfl) (by kernel_rfl) (by kernel_rfl) (fun _ _ _ _ h => h) (by rfl) rfl (fun wz hS => by have hz := cell_of_row _ _ 0 _ _ _ ((hS.block _ (lt_of_block HYR.out)).trans HYR.out); simp only [List.getElem?_toArray, List.getElem?_cons_zero, List.getElem?_cons_succ] at hz; go_simp) HS0.out ?_
            try simp only [List.set_cons_zero, List.set_cons_succ]
            refine take_val 4 (.int .i64 ((xw : Int) + (yw : Int))) rfl (by kernel_rfl) (by kernel_rfl) (by kernel_rfl) (fun _ _ _ _ h => h) (by rfl) rfl (fun wz hS => by go_simp) HS0.out ?_
            try simp only [List.set_cons_zero, List.set_cons_succ]
            refine take_val 5 (.pointer (some ⟨u2.heap.size, 1, none⟩)) rfl (by kernel_rfl) (by kernel_rfl) (by kernel_rfl) (fun _ _ _ _ h => h) (by rfl) rfl (fun wz hS => by go_simp) HS0.out ?_
            try simp only [List.set_cons_zero, List.set_cons_succ]
            refine take_val 6 (.int .i64 (xm : Int)) rfl (by kernel_rfl) (by kernel_rfl) (by kernel_rfl) (fun _ _ _ _ h => h) (by rfl) rfl (fun wz hS => by have hz := cell_of_row _ _ 1 _ _ _ ((hS.block _ (lt_of_block HXR.out)).trans HXR.out); simp only [List.getElem?_toArray, List.getElem?_cons_zero, List.getElem?_cons_succ] at hz; go_simp) HS0.out ?_
            try simp only [List.set_cons_zero, List.set_cons_succ]
            refine take_val 7 (.pointer (some ⟨u2.heap.size + 1, 1, none⟩)) rfl (by kernel_rfl) (by kernel_rfl) (by kernel_rfl) (fun _ _ _ _ h => h) (by rfl) rfl (fun wz hS => by go_simp) HS0.out ?_
            try simp only [List.set_cons_zero, List.set_cons_succ]
            refine take_val 8 (.int .i64 (ym : Int)) rfl (by kernel_rfl) (by kernel_rfl) (by kernel_rfl) (fun _ _ _ _ h => h) (by rfl) rfl (fun wz hS => by have hz := cell_of_row _ _ 1 _ _ _ ((hS.block _ (lt_of_block HYR.out)).trans HYR.out); simp only [List.getElem?_toArray, List.getElem?_cons_zero, List.getElem?_cons_succ] at hz; go_simp) HS0.out ?_
            try simp only [List.set_cons_zero, List.set_cons_succ]
            refine take_val 9 (.int .i64 (min (xm : Int) (ym : Int))) rfl (by kernel_rfl) (by kernel_rfl) (by kernel_rfl) (fun _ _ _ _ h => h) (by rfl) rfl (fun wz hS => by go_simp) HS0.out ?_
            try simp only [List.set_cons_zero, List.set_cons_succ]
            refine take_val 10 (.pointer (some ⟨u2.heap.size, 2, none⟩)) rfl (by kernel_rfl) (by kernel_rfl) (by kernel_rfl) (fun _ _ _ _ h => h) (by rfl) rfl (fun wz hS => by go_simp) HS0.out ?_
            try simp only [List.set_cons_zero, List.set_cons_succ]
            refine take_val 11 (.slice xa xs.length xc) rfl (by kernel_rfl) (by kernel_rfl) (by kernel_rfl) (fun _ _ _ _ h => h) (by rfl) rfl (fun wz hS => by have hz := cell_of_row _ _ 2 _ _ _ ((hS.block _ (lt_of_block HXR.out)).trans HXR.out); simp only [List.getElem?_toArray, List.getElem?_cons_zero, List.getElem?_cons_succ] at hz; go_simp) HS0.out ?_
            try simp only [List.set_cons_zero, List.set_cons_succ]
            refine take_val 12 (.pointer (some ⟨u2.heap.size + 1, 2, none⟩)) rfl (by kernel_rfl) (by kernel_rfl) (by kernel_rfl) (fun _ _ _ _ h => h) (by rfl) rfl (fun wz hS => by go_simp) HS0.out ?_
            try simp only [List.set_cons_zero, List.set_cons_succ]
            refine take_val 13 (.slice ya ys.length yc) rfl (by kernel_rfl) (by kernel_rfl) (by kernel_rfl) (fun _ _ _ _ h => h) (by rfl) rfl (fun wz hS => by have hz := cell_of_row _ _ 2 _ _ _ ((hS.block _ (lt_of_block HYR.out)).trans HYR.out); simp only [List.getElem?_toArray, List.getElem?_cons_zero, List.getElem?_cons_succ] at hz; go_simp) HS0.out ?_
            try simp only [List.set_cons_zero, List.set_cons_succ]
            refine two_ready 14 17 (by kernel_rfl) rfl rfl (by rfl) (by rfl) (fun K hK => ?_) (fun K hK => ?_)
            · refine wp_value_run (v := .slice (some ⟨v0.heap.size, 0, none⟩) 2 2) (w' := v0.alloc (.cells #[.slice xa xs.length xc, .slice ya ys.length yc] 116)) (by go_simp) ?_
              have hbw : Below v0.heap.size v0 (v0.alloc (.cells #[.slice xa xs.length xc, .slice ya ys.length yc] 116)) := (Below.refl _ _).alloc (Nat.le_refl _) _
              have HGv1 := Lib.hid (heap_alloc_new v0 (.cells #[.slice xa xs.length xc, .slice ya ys.length yc] 116))
              have HSp := Lib.hid (Below.step HSv0.out hbw)
              have HGEG : Hid (u3.heap.size ≤ v0.heap.size) := HSv0.out.size
              generalize v0.alloc (.cells #[.slice xa xs.length xc, .slice ya ys.length yc] 116) = v1 at *
              have HSv1 := HSp
              clear HSp HSv0 hbw
              refine hK.out _ _ HSv1.out ?_
              clear hK K
              try simp only [Act.put, List.setIfInBounds_toArray]
              try simp only [List.set_cons_zero, List.set_cons_succ]
              refine two_ready 15 17 (by kernel_rfl) rfl rfl (by rfl) (by rfl) (fun K hK => ?_) (fun K hK => ?_)
              · refine wp_call_run (f := 110) (args := #[.slice (some ⟨v0.heap.size, 0, none⟩) 2 2]) (by kernel_rfl) (concatN_any v0.heap.size _ xa ya xc yc xs ys v1 HGv1.out (HSX3.out.1.below HSv1.out) (HSY3.out.1.below HSv1.out) (by omega)) ?_
                rintro e v2 ⟨hbw, A5, c5, rfl, hown⟩
                have HCv2 := Lib.hid (own_mono hown HSv1.out.size)
                have HSp := Lib.hid (Below.step HSv1.out hbw)
                have HGp := Lib.hid ((hbw.block _ (lt_of_block HGv1.out)).trans HGv1.out)
                clear hown
                have HSv2 := HSp
                clear HSp HSv1 hbw
                have HGv2 := HGp
                clear HGp HGv1
                refine ⟨_, rfl, ?_⟩
                refine hK.out _ _ HSv2.out ?_
                clear hK K
                try simp only [Act.put, List.setIfInBounds_toArray]
                try simp only [List.set_cons_zero, List.set_cons_succ]
                refine take_val 16 (.agg #[.int .i64 ((xw : Int) + (yw : Int)), .int .i64 (min (xm : Int) (ym : Int)), .slice A5 (xs ++ ys).length c5]) rfl (by kernel_rfl) (by kernel_rfl) (by kernel_rfl) (fun _ _ _ _ h => h) (by rfl) rfl (fun wz hS => by go_simp) HSv2.out ?_
                try simp only [List.set_cons_zero, List.set_cons_succ]
                refine one_ready 17 (by kernel_rfl) rfl (by rfl) (fun K hK => ?_)
                refine wp_value_run (v := .pointer (some ⟨v2.heap.size, 0, none⟩)) (w' := v2.alloc (.cells #[.int .i64 0, .int .i64 0, .slice none 0 0] 179)) (by go_simp) ?_
                have hbw : Below v2.heap.size v2 (v2.alloc (.cells #[.int .i64 0, .int .i64 0, .slice none 0 0] 179)) := (Below.refl _ _).alloc (Nat.le_refl _) _
                have HOv3 := Lib.hid (heap_alloc_new v2 (.cells #[.int .i64 0, .int .i64 0, .slice none 0 0] 179))
                have HSp := Lib.hid (Below.step HSv2.out hbw)
                have HGp := Lib.hid ((hbw.block _ (lt_of_block HGv2.out)).trans HGv2.out)
                have HCp := Lib.hid (own_belowK HCv2.out hbw)
                have HGEO : Hid (u3.heap.size ≤ v2.heap.size) := HSv2.out.size
                generalize v2.alloc (.cells #[.int .i64 0, .int .i64 0, .slice none 0 0] 179) = v3 at *
                have HSv3 := HSp
                clear HSp HSv2 hbw
                have HGv3 := HGp
                clear HGp HGv2
                have HCv3 := HCp
                clear HCp HCv2
                refine hK.out _ _ HSv3.out ?_
                clear hK K
                try simp only [Act.put, List.setIfInBounds_toArray]
                try simp only [List.set_cons_zero, List.set_cons_succ]
                refine one_ready 18 (by kernel_rfl) rfl (by rfl) (fun K hK => ?_)
                have hon : (#[.int .i64 ((xw : Int) + (yw : Int)), .int .i64 (min (xm : Int) (ym : Int)), .slice A5 (xs ++ ys).length c5] : Array Value).all (·.oneCell') = true := all_oneCell_toArray (by intro u hu; simp only [List.mem_cons, List.not_mem_nil, or_false] at hu; rcases hu with rfl | rfl | rfl <;> rfl)
                refine wp_store_mid 179 _ _ rfl v2.heap.size 0 #[.int .i64 ((xw : Int) + (yw : Int)), .int .i64 (min (xm : Int) (ym : Int)), .slice A5 (xs ++ ys).length c5] rfl rfl (there_row (cs := #[.int .i64 0, .int .i64 0, .slice none 0 0]) HOv3.out) HIT.out hon ?_
                have HROW := Lib.hid (setCells_full HOv3.out #[.int .i64 ((xw : Int) + (yw : Int)), .int .i64 (min (xm : Int) (ym : Int)), .slice A5 (xs ++ ys).length c5] rfl)
                have HB5 := Lib.hid (below_setCells HGEO.out [.int .i64 ((xw : Int) + (yw : Int)), .int .i64 (min (xm : Int) (ym : Int)), .slice A5 (xs ++ ys).length c5] 0 HSv3.out)
                have HOWN := Lib.hid (own_keep (w' := v3.setCells v2.heap.size 0 [.int .i64 ((xw : Int) + (yw : Int)), .int .i64 (min (xm : Int) (ym : Int)), .slice A5 (xs ++ ys).length c5]) HCv3.out fun k cs hk _ => heap_setCells_other _ _ (type_ne hk HOv3.out (by decide)) _ _ _)
                clear hon
                refine hK.out _ _ HB5.out ?_
                clear hK K
                try simp only [Act.put, List.setIfInBounds_toArray]
                try simp only [List.set_cons_zero, List.set_cons_succ]
                refine wpAnyH_done (by kernel_rfl) ?_ _
                refine NoPanic.normal ?_
                clear HSv3 HGv3 HOv3 HCv3
                generalize v3.setCells v2.heap.size 0 [.int .i64 ((xw : Int) + (yw : Int)), .int .i64 (min (xm : Int) (ym : Int)), .slice A5 (xs ++ ys).length c5] = u5 at *
                obtain ⟨ob, hob⟩ : ∃ ob, v2.heap.size = ob := ⟨_, rfl⟩
                have HOBE : Hid (u3.heap.size ≤ ob) := by have h := HGEO.out; rw [hob] at h; exact h
                rw [hob] at HROW
                rw [hob]
                clear hob HGEO HGEG
                have HSQ : Hid (SyT og u5 (xw + yw, min xm ym, A5, c5, xs ++ ys)) := by
                  refine ⟨sat_own1 nI_length HOWN.out, fun ad e => ?_⟩
                  have h1 := lt_of_block HOG3.out
                  rcases HOWN.out.2 with ⟨e1, _⟩ | ⟨gq, cq, cur, e1, h2, h3, _⟩
                  · injection e1 with e1 _ _
                    have e2 : A5 = some ad := e
                    rw [e1] at e2
                    cases e2
                  · injection e1 with e1 _ _
                    have e2 : A5 = some ad := e
                    rw [e1] at e2
                    injection e2 with e2
                    subst e2
                    exact ⟨by simp only; omega, cur, _, h3⟩
                have HH5 := Lib.hid (HH3.out.below HB5.out)
                have HK5 := Lib.hid (Kp.below HB5.out)
                have HBW5 := Lib.hid (HBU3.out.trans (HB5.out.mono HBU3.out.size))
                have HSL5 : Hid (∀ t ∈ L2, SyT og u5 t) := fun t ht => (HSL3.out t ht).below HB5.out
                have HOG5 := Lib.hid ((HB5.out.block _ (lt_of_block HOG3.out)).trans HOG3.out)
                have HNO : Hid (ob ≠ og) := by have h1 := lt_of_block HOG3.out; have h2 := HOBE.out; show _ ≠ _; omega
                have HOL5 : Hid (o.length = f.length) := HHI.out.len.trans HFl.out
                have HSM : Hid (∀ s ∈ xs ++ ys, s < f.length) := fun s hs => by
                  have h1 : s ∈ syms F := HHI.out.sy.mem_iff.1 (by
                    simp only [keyT, List.flatMap_cons]
                    rcases List.mem_append.1 hs with h | h
                    · exact List.mem_append_left _ h
                    · exact List.mem_append_right _ (List.mem_append_left _ h))
                  have h2 := at0_lt (syms_mem.1 h1)
                  rw [HFl.out] at h2
                  exact h2
                clear HH3 HBU3 HSL3 HOG3 HSX3 HSY3 HB5 HOWN HOBE
                obtain ⟨S, hS⟩ : ∃ S, xs ++ ys = S := ⟨_, rfl⟩
                rw [hS] at HROW HSQ HSM
                rw [hS]
                have HSS := Lib.hid hS
                have hSl : S.length ≤ 256 := by rw [← hS, List.length_append]; exact hlx
                clear hS
                have t2 := cell_of_row _ _ 2 _ _ _ HROW.out
                simp only [List.getElem?_toArray, List.getElem?_cons_succ, List.getElem?_cons_zero] at t2
                go_wp2_with fail
                clear t2
                go_loopw [92] (fun jv wr => ∃ j : Nat, jv = .int .i64 (j : Int) ∧ j ≤ S.length ∧ Hid (∀ k, k ≠ og → wr.heap[k]? = u5.heap[k]?) ∧ Hid (wr.heap.size = u5.heap.size) ∧ Hid (wr.heap[og]? = some (.cells (nC (incs o (S.take j))) 3 (0, 0))) ∧ Hid (Below w1.heap.size w1 wr)) (fun jv _ => S.length - (intOf jv).toNat)
                case atStart => exact ⟨0, rfl, Nat.zero_le _, Lib.hid (fun _ _ => rfl), Lib.hid rfl, HOG5, HBW5⟩
                case round =>
                  obtain ⟨j, rfl, hj, HKE, HSZ, HOR, HBR⟩ := hrel
                  have j0 : (0 : Int) ≤ (j : Int) := Int.natCast_nonneg _
                  have HSA : Hid (SAt 1 nI wr A5 S) := HSQ.out.1.keep (Nat.le_of_eq HSZ.out.symm) fun ad e => HKE.out _ (HSQ.out.2 ad e).1
                  by_cases hjl : j < S.length
                  · have j1 : (j : Int) < (S.length : Int) := by omega
                    obtain ⟨s, hs⟩ : ∃ s, S[j] = s := ⟨_, rfl⟩
                    obtain ⟨gq, oq, hA5, hgq, cq⟩ := SAt.cellN HSA.out j hjl s hs
                    have hsl : s < f.length := HSM.out s (by rw [← hs]; exact List.getElem_mem hjl)
                    have s0 : (0 : Int) ≤ (s : Int) := Int.natCast_nonneg _
                    have s1 : (s : Int) < (f.length : Int) := by omega
                    have HIL : Hid ((incs o (S.take j)).length = f.length) := (incs_len _ _).trans HOL5.out
                    obtain ⟨o2, ho2⟩ : ∃ o2, incs o (S.take j) = o2 := ⟨_, rfl⟩
                    rw [ho2] at HOR HIL
                    have k2 := cell_of_row _ _ s _ _ _ HOR.out
                    rw [nC_get _ s (by rw [HIL.out]; exact hsl)] at k2
                    have k3 := frozen_of_row _ _ s _ _ HOR.out
                    obtain ⟨vv, hvv⟩ : ∃ vv, o2.getD s 0 = vv := ⟨_, rfl⟩
                    rw [hvv] at k2
                    have hvb : vv ≤ 100000 := by
                      rw [← hvv, ← ho2]
                      exact incs_small HHI.out HTOT.out S j hSl s
                    have HOR2 : Hid ((wr.setCell ⟨og, s, none⟩ (.int .i64 ((vv : Int) + 1))).heap[og]? = some (.cells (nC (incs o (S.take (j + 1)))) 3 (0, 0))) := by
                      have h := heap_setCell_same wr og s _ _ (.int .i64 ((vv + 1 : Nat) : Int)) HOR.out
                      rw [nC_set] at h
                      have e : o2.set s (vv + 1) = incs o (S.take (j + 1)) := by
                        rw [List.take_succ_eq_append_getElem hjl, incs, List.foldl_append, hs]
                        show _ = inc (incs o (S.take j)) s
                        rw [ho2, inc, at0, hvv]
                      rw [e] at h
                      exact h
                    have HKE2 : Hid (∀ k, k ≠ og → (wr.setCell ⟨og, s, none⟩ (.int .i64 ((vv : Int) + 1))).heap[k]? = u5.heap[k]?) := fun k hk => (heap_setCell_other wr ⟨og, s, none⟩ k _ hk).trans (HKE.out k hk)
                    have HSZ2 : Hid ((wr.setCell ⟨og, s, none⟩ (.int .i64 ((vv : Int) + 1))).heap.size = u5.heap.size) := by
                      have e : (wr.setCell ⟨og, s, none⟩ (.int .i64 ((vv : Int) + 1))).heap.size = wr.heap.size := by simp [World.setCell]
                      exact e.trans HSZ.out
                    have HBR2 := Lib.hid (below_setCells HW1.out [.int .i64 ((vv : Int) + 1)] s HBR.out)
                    have HHS2 := Lib.hid hs
                    subst hA5
                    clear hs hgq ho2 hvv
                    go_wp2_with fail
                    go_roundw
                    case rel => exact ⟨j + 1, by go_num, by omega, HKE2, HSZ2, HOR2, HBR2⟩
                    case measure => simp [intOf]; omega
                  · have j1 : ¬ (j : Int) < (S.length : Int) := by omega
                    have HOF : Hid (wr.heap[og]? = some (.cells (nC (incs o S)) 3 (0, 0))) := by have h := HOR.out; rw [List.take_of_length_le (by omega)] at h; exact h
                    have HRW := Lib.hid ((HKE.out ob HNO.out).trans HROW.out)
                    have HHW : Hid (HpS w1.heap.size w1.heap.size A2 cap3 L2 wr) := ⟨(HKE.out _ (type_ne HH5.out.row HOG5.out (by decide))).trans HH5.out.row, own_keep HH5.out.own fun k cs hk _ => HKE.out _ (type_ne hk HOG5.out (by decide)), HH5.out.base⟩
                    have hnw : xw + yw ≤ 268435456 := by
                      have h := HI.le (HI.step HHI.out HTOT.out HXY.out.1 (fun r hr => by obtain ⟨t, ht, rfl⟩ := List.mem_map.1 hr; exact HXY.out.2 t ht)) HTOT.out List.mem_cons_self
                      exact h
                    have HOKN : Hid (OkT (xw + yw, min xm ym, A5, c5, S)) := ⟨by show xw + yw ≤ _; omega, by have h := HOX.out.2.1; show min xm ym ≤ _; simp only at h; omega, by show S.length ≤ _; omega⟩
                    have HCL := Lib.hid (HPU.out w1.heap.size w1.heap.size A2 cap3 L2 (xw + yw, min xm ym, A5, c5, S) wr HHW.out HP2.out (by omega) HOL.out HOKN.out)
                    have ec : (hC (xw + yw, min xm ym, A5, c5, S)).toArray = #[.int .i64 ((xw : Int) + (yw : Int)), .int .i64 (min (xm : Int) (ym : Int)), .slice A5 S.length c5] := by
                      have e1 : ((xw + yw : Nat) : Int) = (xw : Int) + (yw : Int) := by omega
                      have e2 : ((min xm ym : Nat) : Int) = min (xm : Int) (ym : Int) := by omega
                      simp only [hC, e1, e2]
                    rw [ec] at HCL
                    have t0 := cell_of_row _ _ 0 _ _ _ HRW.out
                    have t1 := cell_of_row _ _ 1 _ _ _ HRW.out
                    have t2 := cell_of_row _ _ 2 _ _ _ HRW.out
                    simp only [List.getElem?_toArray, List.getElem?_cons_succ, List.getElem?_cons_zero] at t0 t1 t2
                    clear ec hnw
                    go_wp2_with fail
                    refine HCL.out.mono ?_
                    rintro e w9 ⟨rfl, hb9, hk9, A9, cap9, L9, hh9, hp9, hhp9⟩
                    have HH9 := Lib.hid hh9
                    have HP9 := Lib.hid hhp9
                    have HB9 := Lib.hid (HBR.out.trans hb9)
                    have HOG9 := Lib.hid ((hk9.2 _ _ _ _ HOF.out (by decide) (by decide)).trans HOF.out)
                    have HOK9 : Hid (∀ t ∈ L9, OkT t) := fun t ht => by
                      rcases List.mem_append.1 (hp9.mem_iff.1 ht) with h | h
                      · exact HOL.out t h
                      · rw [List.mem_singleton.1 h]; exact HOKN.out
                    have HSY9 : Hid (∀ t ∈ L9, SyT og w9 t) := fun t ht => by
                      rcases List.mem_append.1 (hp9.mem_iff.1 ht) with h | h
                      · exact ((HSL5.out t h).set (Nat.le_of_eq HSZ.out.symm) HKE.out).kp hk9
                      · rw [List.mem_singleton.1 h]
                        exact (HSQ.out.set (Nat.le_of_eq HSZ.out.symm) HKE.out).kp hk9
                    have HFS9 : Hid (Fst F L9 (incs o S)) := by
                      refine .inl ⟨H2S.out, ?_⟩
                      have h := HI.step HHI.out HTOT.out HXY.out.1 (fun r hr => by obtain ⟨t, ht, rfl⟩ := List.mem_map.1 hr; exact HXY.out.2 t ht)
                      have e : (keyT (xw, xm, xa, xc, xs)).2 ++ (keyT (yw, ym, ya, yc, ys)).2 = S := HSS.out
                      rw [e] at h
                      refine h.perm ?_
                      have h2 := (hp9.map keyT).symm
                      rw [List.map_append] at h2
                      exact (List.perm_append_comm.trans h2 : _)
                    have hl9 : L9.length = L2.length + 1 := by have h := hp9.length_eq; simpa using h
                    have hl9b : L9.length ≤ 256 := by omega
                    have HR9 := Lib.hid (cell_of_row _ _ 0 _ _ _ HH9.out.row)
                    have HL9 : Hid (L9.length < L.length) := by have h := HL2.out; show _ < _; omega
                    clear hb9 hk9 hh9 hp9 hhp9 hl9 t0 t1 t2
                    go_wp2_with fail
                    go_roundw
                    case rel => exact ⟨A9, cap9, L9, incs o S, hl9b, HH9, HP9, HB9, HOK9, HSY9, HOG9, HFS9⟩
                    case measure =>
                      have e1 := HR9.out
                      have e2 := HRM.out
                      simp only [List.getElem?_toArray, List.getElem?_cons_succ, List.getElem?_cons_zero] at e1 e2
                      rw [e1, e2]
                      simp only [Option.getD_some, lenOfV]
                      exact HL9.out
              · refine wp_value_run (v := .pointer (some ⟨v1.heap.size, 0, none⟩)) (w' := v1.alloc (.cells #[.int .i64 0, .int .i64 0, .slice none 0 0] 179)) (by go_simp) ?_
                have hbw : Below v1.heap.size v1 (v1.alloc (.cells #[.int .i64 0, .int .i64 0, .slice none 0 0] 179)) := (Below.refl _ _).alloc (Nat.le_refl _) _
                have HOv2 := Lib.hid (heap_alloc_new v1 (.cells #[.int .i64 0, .int .i64 0, .slice none 0 0] 179))
                have HSp := Lib.hid (Below.step HSv1.out hbw)
                have HGp := Lib.hid ((hbw.block _ (lt_of_block HGv1.out)).trans HGv1.out)
                have HGEO : Hid (u3.heap.size ≤ v1.heap.size) := HSv1.out.size
                generalize v1.alloc (.cells #[.int .i64 0, .int .i64 0, .slice none 0 0] 179) = v2 at *
                have HSv2 := HSp
                clear HSp HSv1 hbw
                have HGv2 := HGp
                clear HGp HGv1
                refine hK.out _ _ HSv2.out ?_
                clear hK K
                try simp only [Act.put, List.setIfInBounds_toArray]
                try simp only [List.set_cons_zero, List.set_cons_succ]
                refine one_ready 15 (by kernel_rfl) rfl (by rfl) (fun K hK => ?_)
                refine wp_call_run (f := 110) (args := #[.slice (some ⟨v0.heap.size, 0, none⟩) 2 2]) (by kernel_rfl) (concatN_any v0.heap.size _ xa ya xc yc xs ys v2 HGv2.out (HSX3.out.1.below HSv2.out) (HSY3.out.1.below HSv2.out) (by omega)) ?_
                rintro e v3 ⟨hbw, A5, c5, rfl, hown⟩
                have HCv3 := Lib.hid (own_mono hown HSv2.out.size)
                have HSp := Lib.hid (Below.step HSv2.out hbw)
                have HGp := Lib.hid ((hbw.block _ (lt_of_block HGv2.out)).trans HGv2.out)
                have HOp := Lib.hid ((hbw.block _ (lt_of_block HOv2.out)).trans HOv2.out)
                clear hown
                have HSv3 := HSp
                clear HSp HSv2 hbw
                have HGv3 := HGp
                clear HGp HGv2
                have HOv3 := HOp
                clear HOp HOv2
                refine ⟨_, rfl, ?_⟩
                refine hK.out _ _ HSv3.out ?_
                clear hK K
                try simp only [Act.put, List.setIfInBounds_toArray]
                try simp only [List.set_cons_zero, List.set_cons_succ]
                refine take_val 16 (.agg #[.int .i64 ((xw : Int) + (yw : Int)), .int .i64 (min (xm : Int) (ym : Int)), .slice A5 (xs ++ ys).length c5]) rfl (by kernel_rfl) (by kernel_rfl) (by kernel_rfl) (fun _ _ _ _ h => h) (by rfl) rfl (fun wz hS => by go_simp) HSv3.out ?_
                try simp only [List.set_cons_zero, List.set_cons_succ]
                refine one_ready 18 (by kernel_rfl) rfl (by rfl) (fun K hK => ?_)
                have hon : (#[.int .i64 ((xw : Int) + (yw : Int)), .int .i64 (min (xm : Int) (ym : Int)), .slice A5 (xs ++ ys).length c5] : Array Value).all (·.oneCell') = true := all_oneCell_toArray (by intro u hu; simp only [List.mem_cons, List.not_mem_nil, or_false] at hu; rcases hu with rfl | rfl | rfl <;> rfl)
                refine wp_store_mid 179 _ _ rfl v1.heap.size 0 #[.int .i64 ((xw : Int) + (yw : Int)), .int .i64 (min (xm : Int) (ym : Int)), .slice A5 (xs ++ ys).length c5] rfl rfl (there_row (cs := #[.int .i64 0, .int .i64 0, .slice none 0 0]) HOv3.out) HIT.out hon ?_
                have HROW := Lib.hid (setCells_full HOv3.out #[.int .i64 ((xw : Int) + (yw : Int)), .int .i64 (min (xm : Int) (ym : Int)), .slice A5 (xs ++ ys).length c5] rfl)
                have HB5 := Lib.hid (below_setCells HGEO.out [.int .i64 ((xw : Int) + (yw : Int)), .int .i64 (min (xm : Int) (ym : Int)), .slice A5 (xs ++ ys).length c5] 0 HSv3.out)
                have HOWN := Lib.hid (own_keep (w' := v3.setCells v1.heap.size 0 [.int .i64 ((xw : Int) + (yw : Int)), .int .i64 (min (xm : Int) (ym : Int)), .slice A5 (xs ++ ys).length c5]) HCv3.out fun k cs hk _ => heap_setCells_other _ _ (type_ne hk HOv3.out (by decide)) _ _ _)
                clear hon
                refine hK.out _ _ HB5.out ?_
                clear hK K
                try simp only [Act.put, List.setIfInBounds_toArray]
                try simp only [List.set_cons_zero, List.set_cons_succ]
                refine wpAnyH_done (by kernel_rfl) ?_ _
                refine NoPanic.normal ?_
                clear HSv3 HGv3 HOv3 HCv3
                generalize v3.setCells v1.heap.size 0 [.int .i64 ((xw : Int) + (yw : Int)), .int .i64 (min (xm : Int) (ym : Int)), .slice A5 (xs ++ ys).length c5] = u5 at *
                obtain ⟨ob, hob⟩ : ∃ ob, v1.heap.size = ob := ⟨_, rfl⟩
                have HOBE : Hid (u3.heap.size ≤ ob) := by have h := HGEO.out; rw [hob] at h; exact h
                rw [hob] at HROW
                rw [hob]
                clear hob HGEO HGEG
                have HSQ : Hid (SyT og u5 (xw + yw, min xm ym, A5, c5, xs ++ ys)) := by
                  refine ⟨sat_own1 nI_length HOWN.out, fun ad e => ?_⟩
                  have h1 := lt_of_block HOG3.out
                  rcases HOWN.out.2 with ⟨e1, _⟩ | ⟨gq, cq, cur, e1, h2, h3, _⟩
                  · injection e1 with e1 _ _
                    have e2 : A5 = some ad := e
                    rw [e1] at e2
                    cases e2
                  · injection e1 with e1 _ _
                    have e2 : A5 = some ad := e
                    rw [e1] at e2
                    injection e2 with e2
                    subst e2
                    exact ⟨by simp only; omega, cur, _, h3⟩
                have HH5 := Lib.hid (HH3.out.below HB5.out)
                have HK5 := Lib.hid (Kp.below HB5.out)
                have HBW5 := Lib.hid (HBU3.out.trans (HB5.out.mono HBU3.out.size))
                have HSL5 : Hid (∀ t ∈ L2, SyT og u5 t) := fun t ht => (HSL3.out t ht).below HB5.out
                have HOG5 := Lib.hid ((HB5.out.block _ (lt_of_block HOG3.out)).trans HOG3.out)
                have HNO : Hid (ob ≠ og) := by have h1 := lt_of_block HOG3.out; have h2 := HOBE.out; show _ ≠ _; omega
                have HOL5 : Hid (o.length = f.length) := HHI.out.len.trans HFl.out
                have HSM : Hid (∀ s ∈ xs ++ ys, s < f.length) := fun s hs => by
                  have h1 : s ∈ syms F := HHI.out.sy.mem_iff.1 (by
                    simp only [keyT, List.flatMap_cons]
                    rcases List.mem_append.1 hs with h | h
                    · exact List.mem_append_left _ h
                    · exact List.mem_append_right _ (List.mem_append_left _ h))
                  have h2 := at0_lt (syms_mem.1 h1)
                  rw [HFl.out] at h2
                  exact h2
                clear HH3 HBU3 HSL3 HOG3 HSX3 HSY3 HB5 HOWN HOBE
                obtain ⟨S, hS⟩ : ∃ S, xs ++ ys = S := ⟨_, rfl⟩
                rw [hS] at HROW HSQ HSM
                rw [hS]
                have HSS := Lib.hid hS
                have hSl : S.length ≤ 256 := by rw [← hS, List.length_append]; exact hlx
                clear hS
                have t2 := cell_of_row _ _ 2 _ _ _ HROW.out
                simp only [List.getElem?_toArray, List.getElem?_cons_succ, List.getElem?_cons_zero] at t2
                go_wp2_with fail
                clear t2
                go_loopw [92] (fun jv wr => ∃ j : Nat, jv = .int .i64 (j : Int) ∧ j ≤ S.length ∧ Hid (∀ k, k ≠ og → wr.heap[k]? = u5.heap[k]?) ∧ Hid (wr.heap.size = u5.heap.size) ∧ Hid (wr.heap[og]? = some (.cells (nC (incs o (S.take j))) 3 (0, 0))) ∧ Hid (Below w1.heap.size w1 wr)) (fun jv _ => S.length - (intOf jv).toNat)
                case atStart => exact ⟨0, rfl, Nat.zero_le _, Lib.hid (fun _ _ => rfl), Lib.hid rfl, HOG5, HBW5⟩
                case round =>
                  obtain ⟨j, rfl, hj, HKE, HSZ, HOR, HBR⟩ := hrel
                  have j0 : (0 : Int) ≤ (j : Int) := Int.natCast_nonneg _
                  have HSA : Hid (SAt 1 nI wr A5 S) := HSQ.out.1.keep (Nat.le_of_eq HSZ.out.symm) fun ad e => HKE.out _ (HSQ.out.2 ad e).1
                  by_cases hjl : j < S.length
                  · have j1 : (j : Int) < (S.length : Int) := by omega
                    obtain ⟨s, hs⟩ : ∃ s, S[j] = s := ⟨_, rfl⟩
                    obtain ⟨gq, oq, hA5, hgq, cq⟩ := SAt.cellN HSA.out j hjl s hs
                    have hsl : s < f.length := HSM.out s (by rw [← hs]; exact List.getElem_mem hjl)
                    have s0 : (0 : Int) ≤ (s : Int) := Int.natCast_nonneg _
                    have s1 : (s : Int) < (f.length : Int) := by omega
                    have HIL : Hid ((incs o (S.take j)).length = f.length) := (incs_len _ _).trans HOL5.out
                    obtain ⟨o2, ho2⟩ : ∃ o2, incs o (S.take j) = o2 := ⟨_, rfl⟩
                    rw [ho2] at HOR HIL
                    have k2 := cell_of_row _ _ s _ _ _ HOR.out
                    rw [nC_get _ s (by rw [HIL.out]; exact hsl)] at k2
                    have k3 := frozen_of_row _ _ s _ _ HOR.out
                    obtain ⟨vv, hvv⟩ : ∃ vv, o2.getD s 0 = vv := ⟨_, rfl⟩
                    rw [hvv] at k2
                    have hvb : vv ≤ 100000 := by
                      rw [← hvv, ← ho2]
                      exact incs_small HHI.out HTOT.out S j hSl s
                    have HOR2 : Hid ((wr.setCell ⟨og, s, none⟩ (.int .i64 ((vv : Int) + 1))).heap[og]? = some (.cells (nC (incs o (S.take (j + 1)))) 3 (0, 0))) := by
                      have h := heap_setCell_same wr og s _ _ (.int .i64 ((vv + 1 : Nat) : Int)) HOR.out
                      rw [nC_set] at h
                      have e : o2.set s (vv + 1) = incs o (S.take (j + 1)) := by
                        rw [List.take_succ_eq_append_getElem hjl, incs, List.foldl_append, hs]
                        show _ = inc (incs o (S.take j)) s
                        rw [ho2, inc, at0, hvv]
                      rw [e] at h
                      exact h
                    have HKE2 : Hid (∀ k, k ≠ og → (wr.setCell ⟨og, s, none⟩ (.int .i64 ((vv : Int) + 1))).heap[k]? = u5.heap[k]?) := fun k hk => (heap_setCell_other wr ⟨og, s, none⟩ k _ hk).trans (HKE.out k hk)
                    have HSZ2 : Hid ((wr.setCell ⟨og, s, none⟩ (.int .i64 ((vv : Int) + 1))).heap.size = u5.heap.size) := by
                      have e : (wr.setCell ⟨og, s, none⟩ (.int .i64 ((vv : Int) + 1))).heap.size = wr.heap.size := by simp [World.setCell]
                      exact e.trans HSZ.out
                    have HBR2 := Lib.hid (below_setCells HW1.out [.int .i64 ((vv : Int) + 1)] s HBR.out)
                    have HHS2 := Lib.hid hs
                    subst hA5
                    clear hs hgq ho2 hvv
                    go_wp2_with fail
                    go_roundw
                    case rel => exact ⟨j + 1, by go_num, by omega, HKE2, HSZ2, HOR2, HBR2⟩
                    case measure => simp [intOf]; omega
                  · have j1 : ¬ (j : Int) < (S.length : Int) := by omega
                    have HOF : Hid (wr.heap[og]? = some (.cells (nC (incs o S)) 3 (0, 0))) := by have h := HOR.out; rw [List.take_of_length_le (by omega)] at h; exact h
                    have HRW := Lib.hid ((HKE.out ob HNO.out).trans HROW.out)
                    have HHW : Hid (HpS w1.heap.size w1.heap.size A2 cap3 L2 wr) := ⟨(HKE.out _ (type_ne HH5.out.row HOG5.out (by decide))).trans HH5.out.row, own_keep HH5.out.own fun k cs hk _ => HKE.out _ (type_ne hk HOG5.out (by decide)), HH5.out.base⟩
                    have hnw : xw + yw ≤ 268435456 := by
                      have h := HI.le (HI.step HHI.out HTOT.out HXY.out.1 (fun r hr => by obtain ⟨t, ht, rfl⟩ := List.mem_map.1 hr; exact HXY.out.2 t ht)) HTOT.out List.mem_cons_self
                      exact h
                    have HOKN : Hid (OkT (xw + yw, min xm ym, A5, c5, S)) := ⟨by show xw + yw ≤ _; omega, by have h := HOX.out.2.1; show min xm ym ≤ _; simp only at h; omega, by show S.length ≤ _; omega⟩
                    have HCL := Lib.hid (HPU.out w1.heap.size w1.heap.size A2 cap3 L2 (xw + yw, min xm ym, A5, c5, S) wr HHW.out HP2.out (by omega) HOL.out HOKN.out)
                    have ec : (hC (xw + yw, min xm ym, A5, c5, S)).toArray = #[.int .i64 ((xw : Int) + (yw : Int)), .int .i64 (min (xm : Int) (ym : Int)), .slice A5 S.length c5] := by
                      have e1 : ((xw + yw : Nat) : Int) = (xw : Int) + (yw : Int) := by omega
                      have e2 : ((min xm ym : Nat) : Int) = min (xm : Int) (ym : Int) := by omega
                      simp only [hC, e1, e2]
                    rw [ec] at HCL
                    have t0 := cell_of_row _ _ 0 _ _ _ HRW.out
                    have t1 := cell_of_row _ _ 1 _ _ _ HRW.out
                    have t2 := cell_of_row _ _ 2 _ _ _ HRW.out
                    simp only [List.getElem?_toArray, List.getElem?_cons_succ, List.getElem?_cons_zero] at t0 t1 t2
                    clear ec hnw
                    go_wp2_with fail
                    refine HCL.out.mono ?_
                    rintro e w9 ⟨rfl, hb9, hk9, A9, cap9, L9, hh9, hp9, hhp9⟩
                    have HH9 := Lib.hid hh9
                    have HP9 := Lib.hid hhp9
                    have HB9 := Lib.hid (HBR.out.trans hb9)
                    have HOG9 := Lib.hid ((hk9.2 _ _ _ _ HOF.out (by decide) (by decide)).trans HOF.out)
                    have HOK9 : Hid (∀ t ∈ L9, OkT t) := fun t ht => by
                      rcases List.mem_append.1 (hp9.mem_iff.1 ht) with h | h
                      · exact HOL.out t h
                      · rw [List.mem_singleton.1 h]; exact HOKN.out
                    have HSY9 : Hid (∀ t ∈ L9, SyT og w9 t) := fun t ht => by
                      rcases List.mem_append.1 (hp9.mem_iff.1 ht) with h | h
                      · exact ((HSL5.out t h).set (Nat.le_of_eq HSZ.out.symm) HKE.out).kp hk9
                      · rw [List.mem_singleton.1 h]
                        exact (HSQ.out.set (Nat.le_of_eq HSZ.out.symm) HKE.out).kp hk9
                    have HFS9 : Hid (Fst F L9 (incs o S)) := by
                      refine .inl ⟨H2S.out, ?_⟩
                      have h := HI.step HHI.out HTOT.out HXY.out.1 (fun r hr => by obtain ⟨t, ht, rfl⟩ := List.mem_map.1 hr; exact HXY.out.2 t ht)
                      have e : (keyT (xw, xm, xa, xc, xs)).2 ++ (keyT (yw, ym, ya, yc, ys)).2 = S := HSS.out
                      rw [e] at h
                      refine h.perm ?_
                      have h2 := (hp9.map keyT).symm
                      rw [List.map_append] at h2
                      exact (List.perm_append_comm.trans h2 : _)
                    have hl9 : L9.length = L2.length + 1 := by have h := hp9.length_eq; simpa using h
                    have hl9b : L9.length ≤ 256 := by omega
                    have HR9 := Lib.hid (cell_of_row _ _ 0 _ _ _ HH9.out.row)
                    have HL9 : Hid (L9.length < L.length) := by have h := HL2.out; show _ < _; omega
                    clear hb9 hk9 hh9 hp9 hhp9 hl9 t0 t1 t2
                    go_wp2_with fail
                    go_roundw
                    case rel => exact ⟨A9, cap9, L9, incs o S, hl9b, HH9, HP9, HB9, HOK9, HSY9, HOG9, HFS9⟩
                    case measure =>
                      have e1 := HR9.out
                      have e2 := HRM.out
                      simp only [List.getElem?_toArray, List.getElem?_cons_succ, List.getElem?_cons_zero] at e1 e2
                      rw [e1, e2]
                      simp only [Option.getD_some, lenOfV]
                      exact HL9.out
            · refine wp_value_run (v := .pointer (some ⟨v0.heap.size, 0, none⟩)) (w' := v0.alloc (.cells #[.int .i64 0, .int .i64 0, .slice none 0 0] 179)) (by go_simp) ?_
              have hbw : Below v0.heap.size v0 (v0.alloc (.cells #[.int .i64 0, .int .i64 0, .slice none 0 0] 179)) := (Below.refl _ _).alloc (Nat.le_refl _) _
              have HOv1 := Lib.hid (heap_alloc_new v0 (.cells #[.int .i64 0, .int .i64 0, .slice none 0 0] 179))
              have HSp := Lib.hid (Below.step HSv0.out hbw)
              have HGEO : Hid (u3.heap.size ≤ v0.heap.size) := HSv0.out.size
              generalize v0.alloc (.cells #[.int .i64 0, .int .i64 0, .slice none 0 0] 179) = v1 at *
              have HSv1 := HSp
              clear HSp HSv0 hbw
              refine hK.out _ _ HSv1.out ?_
              clear hK K
              try simp only [Act.put, List.setIfInBounds_toArray]
              try simp only [List.set_cons_zero, List.set_cons_succ]
              refine one_ready 14 (by kernel_rfl) rfl (by rfl) (fun K hK => ?_)
              refine wp_value_run (v := .slice (some ⟨v1.heap.size, 0, none⟩) 2 2) (w' := v1.alloc (.cells #[.slice xa xs.length xc, .slice ya ys.length yc] 116)) (by go_simp) ?_
              have hbw : Below v1.heap.size v1 (v1.alloc (.cells #[.slice xa xs.length xc, .slice ya ys.length yc] 116)) := (Below.refl _ _).alloc (Nat.le_refl _) _
              have HGv2 := Lib.hid (heap_alloc_new v1 (.cells #[.slice xa xs.length xc, .slice ya ys.length yc] 116))
              have HSp := Lib.hid (Below.step HSv1.out hbw)
              have HOp := Lib.hid ((hbw.block _ (lt_of_block HOv1.out)).trans HOv1.out)
              have HGEG : Hid (u3.heap.size ≤ v1.heap.size) := HSv1.out.size
              generalize v1.alloc (.cells #[.slice xa xs.length xc, .slice ya ys.length yc] 116) = v2 at *
              have HSv2 := HSp
              clear HSp HSv1 hbw
              have HOv2 := HOp
              clear HOp HOv1
              refine hK.out _ _ HSv2.out ?_
              clear hK K
              try simp only [Act.put, List.setIfInBounds_toArray]
              try simp only [List.set_cons_zero, List.set_cons_succ]
              refine one_ready 15 (by kernel_rfl) rfl (by rfl) (fun K hK => ?_)
              refine wp_call_run (f := 110) (args := #[.slice (some ⟨v1.heap.size, 0, none⟩) 2 2]) (by kernel_rfl) (concatN_any v1.heap.size _ xa ya xc yc xs ys v2 HGv2.out (HSX3.out.1.below HSv2.out) (HSY3.out.1.below HSv2.out) (by omega)) ?_
              rintro e v3 ⟨hbw, A5, c5, rfl, hown⟩
              have HCv3 := Lib.hid (own_mono hown HSv2.out.size)
              have HSp := Lib.hid (Below.step HSv2.out hbw)
              have HGp := Lib.hid ((hbw.block _ (lt_of_block HGv2.out)).trans HGv2.out)
              have HOp := Lib.hid ((hbw.block _ (lt_of_block HOv2.out)).trans HOv2.out)
              clear hown
              have HSv3 := HSp
              clear HSp HSv2 hbw
              have HGv3 := HGp
              clear HGp HGv2
              have HOv3 := HOp
              clear HOp HOv2
              refine ⟨_, rfl, ?_⟩
              refine hK.out _ _ HSv3.out ?_
              clear hK K
              try simp only [Act.put, List.setIfInBounds_toArray]
              try simp only [List.set_cons_zero, List.set_cons_succ]
              refine take_val 16 (.agg #[.int .i64 ((xw : Int) + (yw : Int)), .int .i64 (min (xm : Int) (ym : Int)), .slice A5 (xs ++ ys).length c5]) rfl (by kernel_rfl) (by kernel_rfl) (by kernel_rfl) (fun _ _ _ _ h => h) (by rfl) rfl (fun wz hS => by go_simp) HSv3.out ?_
              try simp only [List.set_cons_zero, List.set_cons_succ]
              refine one_ready 18 (by kernel_rfl) rfl (by rfl) (fun K hK => ?_)
              have hon : (#[.int .i64 ((xw : Int) + (yw : Int)), .int .i64 (min (xm : Int) (ym : Int)), .slice A5 (xs ++ ys).length c5] : Array Value).all (·.oneCell') = true := all_oneCell_toArray (by intro u hu; simp only [List.mem_cons, List.not_mem_nil, or_false] at hu; rcases hu with rfl | rfl | rfl <;> rfl)
              refine wp_store_mid 179 _ _ rfl v0.heap.size 0 #[.int .i64 ((xw : Int) + (yw : Int)), .int .i64 (min (xm : Int) (ym : Int)), .slice A5 (xs ++ ys).length c5] rfl rfl (there_row (cs := #[.int .i64 0, .int .i64 0, .slice none 0 0]) HOv3.out) HIT.out hon ?_
              have HROW := Lib.hid (setCells_full HOv3.out #[.int .i64 ((xw : Int) + (yw : Int)), .int .i64 (min (xm : Int) (ym : Int)), .slice A5 (xs ++ ys).length c5] rfl)
              have HB5 := Lib.hid (below_setCells HGEO.out [.int .i64 ((xw : Int) + (yw : Int)), .int .i64 (min (xm : Int) (ym : Int)), .slice A5 (xs ++ ys).length c5] 0 HSv3.out)
              have HOWN := Lib.hid (own_keep (w' := v3.setCells v0.heap.size 0 [.int .i64 ((xw : Int) + (yw : Int)), .int .i64 (min (xm : Int) (ym : Int)), .slice A5 (xs ++ ys).length c5]) HCv3.out fun k cs hk _ => heap_setCells_other _ _ (type_ne hk HOv3.out (by decide)) _ _ _)
              clear hon
              refine hK.out _ _ HB5.out ?_
              clear hK K
              try simp only [Act.put, List.setIfInBounds_toArray]
              try simp only [List.set_cons_zero, List.set_cons_succ]
              refine wpAnyH_done (by kernel_rfl) ?_ _
              refine NoPanic.normal ?_
              clear HSv3 HGv3 HOv3 HCv3
              generalize v3.setCells v0.heap.size 0 [.int .i64 ((xw : Int) + (yw : Int)), .int .i64 (min (xm : Int) (ym : Int)), .slice A5 (xs ++ ys).length c5] = u5 at *
              obtain ⟨ob, hob⟩ : ∃ ob, v0.heap.size = ob := ⟨_, rfl⟩
              have HOBE : Hid (u3.heap.size ≤ ob) := by have h := HGEO.out; rw [hob] at h; exact h
              rw [hob] at HROW
              rw [hob]
              clear hob HGEO HGEG
              have HSQ : Hid (SyT og u5 (xw + yw, min xm ym, A5, c5, xs ++ ys)) := by
                refine ⟨sat_own1 nI_length HOWN.out, fun ad e => ?_⟩
                have h1 := lt_of_block HOG3.out
                rcases HOWN.out.2 with ⟨e1, _⟩ | ⟨gq, cq, cur, e1, h2, h3, _⟩
                · injection e1 with e1 _ _
                  have e2 : A5 = some ad := e
                  rw [e1] at e2
                  cases e2
                · injection e1 with e1 _ _
                  have e2 : A5 = some ad := e
                  rw [e1] at e2
                  injection e2 with e2
                  subst e2
                  exact ⟨by simp only; omega, cur, _, h3⟩
              have HH5 := Lib.hid (HH3.out.below HB5.out)
              have HK5 := Lib.hid (Kp.below HB5.out)
              have HBW5 := Lib.hid (HBU3.out.trans (HB5.out.mono HBU3.out.size))
              have HSL5 : Hid (∀ t ∈ L2, SyT og u5 t) := fun t ht => (HSL3.out t ht).below HB5.out
              have HOG5 := Lib.hid ((HB5.out.block _ (lt_of_block HOG3.out)).trans HOG3.out)
              have HNO : Hid (ob ≠ og) := by have h1 := lt_of_block HOG3.out; have h2 := HOBE.out; show _ ≠ _; omega
              have HOL5 : Hid (o.length = f.length) := HHI.out.len.trans HFl.out
              have HSM : Hid (∀ s ∈ xs ++ ys, s < f.length) := fun s hs => by
                have h1 : s ∈ syms F := HHI.out.sy.mem_iff.1 (by
                  simp only [keyT, List.flatMap_cons]
                  rcases List.mem_append.1 hs with h | h
                  · exact List.mem_append_left _ h
                  · exact List.mem_append_right _ (List.mem_append_left _ h))
                have h2 := at0_lt (syms_mem.1 h1)
                rw [HFl.out] at h2
                exact h2
              clear HH3 HBU3 HSL3 HOG3 HSX3 HSY3 HB5 HOWN HOBE
              obtain ⟨S, hS⟩ : ∃ S, xs ++ ys = S := ⟨_, rfl⟩
              rw [hS] at HROW HSQ HSM
              rw [hS]
              have HSS := Lib.hid hS
              have hSl : S.length ≤ 256 := by rw [← hS, List.length_append]; exact hlx
              clear hS
              have t2 := cell_of_row _ _ 2 _ _ _ HROW.out
              simp only [List.getElem?_toArray, List.getElem?_cons_succ, List.getElem?_cons_zero] at t2
              go_wp2_with fail
              clear t2
              go_loopw [92] (fun jv wr => ∃ j : Nat, jv = .int .i64 (j : Int) ∧ j ≤ S.length ∧ Hid (∀ k, k ≠ og → wr.heap[k]? = u5.heap[k]?) ∧ Hid (wr.heap.size = u5.heap.size) ∧ Hid (wr.heap[og]? = some (.cells (nC (incs o (S.take j))) 3 (0, 0))) ∧ Hid (Below w1.heap.size w1 wr)) (fun jv _ => S.length - (intOf jv).toNat)
              case atStart => exact ⟨0, rfl, Nat.zero_le _, Lib.hid (fun _ _ => rfl), Lib.hid rfl, HOG5, HBW5⟩
              case round =>
                obtain ⟨j, rfl, hj, HKE, HSZ, HOR, HBR⟩ := hrel
                have j0 : (0 : Int) ≤ (j : Int) := Int.natCast_nonneg _
                have HSA : Hid (SAt 1 nI wr A5 S) := HSQ.out.1.keep (Nat.le_of_eq HSZ.out.symm) fun ad e => HKE.out _ (HSQ.out.2 ad e).1
                by_cases hjl : j < S.length
                · have j1 : (j : Int) < (S.length : Int) := by omega
                  obtain ⟨s, hs⟩ : ∃ s, S[j] = s := ⟨_, rfl⟩
                  obtain ⟨gq, oq, hA5, hgq, cq⟩ := SAt.cellN HSA.out j hjl s hs
                  have hsl : s < f.length := HSM.out s (by rw [← hs]; exact List.getElem_mem hjl)
                  have s0 : (0 : Int) ≤ (s : Int) := Int.natCast_nonneg _
                  have s1 : (s : Int) < (f.length : Int) := by omega
                  have HIL : Hid ((incs o (S.take j)).length = f.length) := (incs_len _ _).trans HOL5.out
                  obtain ⟨o2, ho2⟩ : ∃ o2, incs o (S.take j) = o2 := ⟨_, rfl⟩
                  rw [ho2] at HOR HIL
                  have k2 := cell_of_row _ _ s _ _ _ HOR.out
                  rw [nC_get _ s (by rw [HIL.out]; exact hsl)] at k2
                  have k3 := frozen_of_row _ _ s _ _ HOR.out
                  obtain ⟨vv, hvv⟩ : ∃ vv, o2.getD s 0 = vv := ⟨_, rfl⟩
                  rw [hvv] at k2
                  have hvb : vv ≤ 100000 := by
                    rw [← hvv, ← ho2]
                    exact incs_small HHI.out HTOT.out S j hSl s
                  have HOR2 : Hid ((wr.setCell ⟨og, s, none⟩ (.int .i64 ((vv : Int) + 1))).heap[og]? = some (.cells (nC (incs o (S.take (j + 1)))) 3 (0, 0))) := by
                    have h := heap_setCell_same wr og s _ _ (.int .i64 ((vv + 1 : Nat) : Int)) HOR.out
                    rw [nC_set] at h
                    have e : o2.set s (vv + 1) = incs o (S.take (j + 1)) := by
                      rw [List.take_succ_eq_append_getElem hjl, incs, List.foldl_append, hs]
                      show _ = inc (incs o (S.take j)) s
                      rw [ho2, inc, at0, hvv]
                    rw [e] at h
                    exact h
                  have HKE2 : Hid (∀ k, k ≠ og → (wr.setCell ⟨og, s, none⟩ (.int .i64 ((vv : Int) + 1))).heap[k]? = u5.heap[k]?) := fun k hk => (heap_setCell_other wr ⟨og, s, none⟩ k _ hk).trans (HKE.out k hk)
                  have HSZ2 : Hid ((wr.setCell ⟨og, s, none⟩ (.int .i64 ((vv : Int) + 1))).heap.size = u5.heap.size) := by
                    have e : (wr.setCell ⟨og, s, none⟩ (.int .i64 ((vv : Int) + 1))).heap.size = wr.heap.size := by simp [World.setCell]
                    exact e.trans HSZ.out
                  have HBR2 := Lib.hid (below_setCells HW1.out [.int .i64 ((vv : Int) + 1)] s HBR.out)
                  have HHS2 := Lib.hid hs
                  subst hA5
                  clear hs hgq ho2 hvv
                  go_wp2_with fail
                  go_roundw
                  case rel => exact ⟨j + 1, by go_num, by omega, HKE2, HSZ2, HOR2, HBR2⟩
                  case measure => simp [intOf]; omega
                · have j1 : ¬ (j : Int) < (S.length : Int) := by omega
                  have HOF : Hid (wr.heap[og]? = some (.cells (nC (incs o S)) 3 (0, 0))) := by have h := HOR.out; rw [List.take_of_length_le (by omega)] at h; exact h
                  have HRW := Lib.hid ((HKE.out ob HNO.out).trans HROW.out)
                  have HHW : Hid (HpS w1.heap.size w1.heap.size A2 cap3 L2 wr) := ⟨(HKE.out _ (type_ne HH5.out.row HOG5.out (by decide))).trans HH5.out.row, own_keep HH5.out.own fun k cs hk _ => HKE.out _ (type_ne hk HOG5.out (by decide)), HH5.out.base⟩
                  have hnw : xw + yw ≤ 268435456 := by
                    have h := HI.le (HI.step HHI.out HTOT.out HXY.out.1 (fun r hr => by obtain ⟨t, ht, rfl⟩ := List.mem_map.1 hr; exact HXY.out.2 t ht)) HTOT.out List.mem_cons_self
                    exact h
                  have HOKN : Hid (OkT (xw + yw, min xm ym, A5, c5, S)) := ⟨by show xw + yw ≤ _; omega, by have h := HOX.out.2.1; show min xm ym ≤ _; simp only at h; omega, by show S.length ≤ _; omega⟩
                  have HCL := Lib.hid (HPU.out w1.heap.size w1.heap.size A2 cap3 L2 (xw + yw, min xm ym, A5, c5, S) wr HHW.out HP2.out (by omega) HOL.out HOKN.out)
                  have ec : (hC (xw + yw, min xm ym, A5, c5, S)).toArray = #[.int .i64 ((xw : Int) + (yw : Int)), .int .i64 (min (xm : Int) (ym : Int)), .slice A5 S.length c5] := by
                    have e1 : ((xw + yw : Nat) : Int) = (xw : Int) + (yw : Int) := by omega
                    have e2 : ((min xm ym : Nat) : Int) = min (xm : Int) (ym : Int) := by omega
                    simp only [hC, e1, e2]
                  rw [ec] at HCL
                  have t0 := cell_of_row _ _ 0 _ _ _ HRW.out
                  have t1 := cell_of_row _ _ 1 _ _ _ HRW.out
                  have t2 := cell_of_row _ _ 2 _ _ _ HRW.out
                  simp only [List.getElem?_toArray, List.getElem?_cons_succ, List.getElem?_cons_zero] at t0 t1 t2
                  clear ec hnw
                  go_wp2_with fail
                  refine HCL.out.mono ?_
                  rintro e w9 ⟨rfl, hb9, hk9, A9, cap9, L9, hh9, hp9, hhp9⟩
                  have HH9 := Lib.hid hh9
                  have HP9 := Lib.hid hhp9
                  have HB9 := Lib.hid (HBR.out.trans hb9)
                  have HOG9 := Lib.hid ((hk9.2 _ _ _ _ HOF.out (by decide) (by decide)).trans HOF.out)
                  have HOK9 : Hid (∀ t ∈ L9, OkT t) := fun t ht => by
                    rcases List.mem_append.1 (hp9.mem_iff.1 ht) with h | h
                    · exact HOL.out t h
                    · rw [List.mem_singleton.1 h]; exact HOKN.out
                  have HSY9 : Hid (∀ t ∈ L9, SyT og w9 t) := fun t ht => by
                    rcases List.mem_append.1 (hp9.mem_iff.1 ht) with h | h
                    · exact ((HSL5.out t h).set (Nat.le_of_eq HSZ.out.symm) HKE.out).kp hk9
                    · rw [List.mem_singleton.1 h]
                      exact (HSQ.out.set (Nat.le_of_eq HSZ.out.symm) HKE.out).kp hk9
                  have HFS9 : Hid (Fst F L9 (incs o S)) := by
                    refine .inl ⟨H2S.out, ?_⟩
                    have h := HI.step HHI.out HTOT.out HXY.out.1 (fun r hr => by obtain ⟨t, ht, rfl⟩ := List.mem_map.1 hr; exact HXY.out.2 t ht)
                    have e : (keyT (xw, xm, xa, xc, xs)).2 ++ (keyT (yw, ym, ya, yc, ys)).2 = S := HSS.out
                    rw [e] at h
                    refine h.perm ?_
                    have h2 := (hp9.map keyT).symm
                    rw [List.map_append] at h2
                    exact (List.perm_append_comm.trans h2 : _)
                  have hl9 : L9.length = L2.length + 1 := by have h := hp9.length_eq; simpa using h
                  have hl9b : L9.length ≤ 256 := by omega
                  have HR9 := Lib.hid (cell_of_row _ _ 0 _ _ _ HH9.out.row)
                  have HL9 : Hid (L9.length < L.length) := by have h := HL2.out; show _ < _; omega
                  clear hb9 hk9 hh9 hp9 hhp9 hl9 t0 t1 t2
                  go_wp2_with fail
                  go_roundw
                  case rel => exact ⟨A9, cap9, L9, incs o S, hl9b, HH9, HP9, HB9, HOK9, HSY9, HOG9, HFS9⟩
                  case measure =>
                    have e1 := HR9.out
                    have e2 := HRM.out
                    simp only [List.getElem?_toArray, List.getElem?_cons_succ, List.getElem?_cons_zero] at e1 e2
                    rw [e1, e2]
                    simp only [Option.getD_some, lenOfV]
                    exact HL9.out
          · have m2 : ¬ (L.length : Int) > 1 := by omega
            go_wp2_with fail
            go_ret2
            refine ⟨Below.step HB1.out HBW.out, .inr ⟨⟨b1, b2, HC4.out⟩, og, o, rfl, Nat.le_trans HB1.out.size HW1.out, HOG.out, ?_⟩⟩
            rw [HFE.out]
            exact HFS.out.fin HTOT.out (by omega)
end Go.Proofs.YtbfhhnpoogmlnaaDoor
