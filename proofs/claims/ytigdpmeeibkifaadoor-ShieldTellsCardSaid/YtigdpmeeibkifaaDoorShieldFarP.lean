/- Plain laws of ShieldFar and ShieldTells: n shards alike, parts alike. -/
import Derived.Test.YtigdpmeeibkifaaDoorShieldsW
import Derived.Test.YtigdpmeeibkifaaDoorShieldVer
import Derived.Test.YtigdpmeeibkifaaDoorShieldAnyP
namespace Go.Proofs.YtigdpmeeibkifaaDoor
open Go.RowKit Plain
set_option linter.unusedVariables false
set_option linter.unusedSimpArgs false
theorem dot_xor (n : Nat) (a x y : Nat → Nat) : dotN n a (fun k => x k ^^^ y k) = dotN n a x ^^^ dotN n a y := by
  unfold dotN
  rw [← xsum_xor]
  exact xsum_congr fun k _ => fmul_xor_right _ _ _
/-- n SHARDS ALIKE: all parts are alike -/
theorem parts_agree {ts us : List ByteArray} {n : Nat} (hn : n ≤ 16) (hl : ts.length = n) (hu : us.length = n) (hts : ∀ s ∈ ts, s.size = len0 ts) (hus : ∀ s ∈ us, s.size = len0 us) (h0 : len0 ts = len0 us)
    (P : List Nat) (hP : P.Nodup) (hlen : n ≤ P.length) (hb : ∀ s ∈ P, s < n + 8) (he : ∀ s ∈ P, shardB ts s = shardB us s) : ts = us := by
  have key : ∀ t, t < len0 ts → ∀ k, k < n → txt ts k t = txt us k t := by
    intro t ht k hk
    have hbt : Byt fun k => txt ts k t ^^^ txt us k t := fun k => xor_lt (txt_lt _ _ _) (txt_lt _ _ _)
    have hz := rows_ns hn P hP hlen hb (fun k => txt ts k t ^^^ txt us k t) hbt (fun s hs => by
      have e1 := comb_byte (len := len0 ts) (n := ts.length) (t := t) (ts := ts) (rowF_byt ts.length s) ht
      have e2 := comb_byte (len := len0 us) (n := us.length) (t := t) (ts := us) (rowF_byt us.length s) (by omega)
      have e3 := he s hs
      unfold shardB at e3
      rw [e3, e2, hl, hu] at e1
      rw [dot_xor, e1]
      exact Nat.xor_self _) k hk
    exact xor_self_eq.1 hz
  apply List.ext_getElem
  · omega
  · intro k h1 h2
    apply strN_inj
    have s1 := hts _ (List.getElem_mem h1)
    have s2 := hus _ (List.getElem_mem h2)
    apply List.ext_getElem
    · rw [strN_length, strN_length]; omega
    · intro t ht1 ht2
      have ht : t < len0 ts := by rw [strN_length] at ht1; omega
      have := key t ht k (by omega)
      unfold txt at this
      rw [getD_getB h1, getD_getB h2, List.getD_eq_getElem?_getD, List.getElem?_eq_getElem ht1, List.getD_eq_getElem?_getD, List.getElem?_eq_getElem ht2] at this
      exact this
theorem all_flags : ∀ k, k < 24 → flag 1099511627775 k = true := by decide +kernel
/-- FEW SHARDS UNLIKE: all parts are alike -/
theorem far_le {ts us : List ByteArray} {q : Nat} (hg : GOk ts (q : Int)) (hg' : GOk us (q : Int)) (hl : us.length = ts.length) (h0 : len0 ts = len0 us)
    (hc : cntD (shl ts 1099511627775 (ts.length + q)) (shl us 1099511627775 (ts.length + q)) (ts.length + q) ≤ q) : ts = us := by
  obtain ⟨h1, h2, h3, h4, h5⟩ := hg
  obtain ⟨g1, g2, g3, g4, g5⟩ := hg'
  have hsp := filter_split (List.range (ts.length + q)) fun k => decide (shG (shl ts 1099511627775 (ts.length + q)) k ≠ shG (shl us 1099511627775 (ts.length + q)) k)
  rw [List.length_range] at hsp
  unfold cntD at hc
  refine parts_agree (n := ts.length) h2 rfl hl (fun s hs => (h5 s hs).2) (fun s hs => (g5 s hs).2) h0 ((List.range (ts.length + q)).filter fun k => !decide (shG (shl ts 1099511627775 (ts.length + q)) k ≠ shG (shl us 1099511627775 (ts.length + q)) k)) (List.nodup_range.filter _) (by omega) ?_ ?_
  · intro s hs
    have := List.mem_range.1 (List.mem_filter.1 hs).1
    omega
  · intro s hs
    have hlt := List.mem_range.1 (List.mem_filter.1 hs).1
    have he := (List.mem_filter.1 hs).2
    simp only [Bool.not_eq_true', decide_eq_false_iff_not, ne_eq, Decidable.not_not] at he
    rw [shl_shG hlt, shl_shG hlt] at he
    unfold mkS at he
    rw [if_pos (all_flags s (by omega)), if_pos (all_flags s (by omega))] at he
    exact (Prod.mk.inj he).2
theorem shG_set {l : List ShT} {i k : Nat} {y : ShT} (hi : i < l.length) : shG (l.set i y) k = if k = i then y else shG l k := by
  unfold shG
  rw [List.getD_eq_getElem?_getD, List.getD_eq_getElem?_getD, List.getElem?_set]
  by_cases h : k = i
  · subst h; rw [if_pos rfl, if_pos rfl, if_pos hi]; rfl
  · rw [if_neg (fun e => h e.symm), if_neg h]
theorem pres_set {l : List ShT} {i : Nat} {x : ByteArray} (hi : i < l.length) (hh : (shG l i).1 = true) : pres (l.set i (true, x)) = pres l := by
  unfold pres presN
  rw [List.length_set]
  refine List.filter_congr fun k _ => ?_
  rw [shG_set hi]
  by_cases h : k = i
  · subst h; rw [if_pos rfl, hh]
  · rw [if_neg h]
/-- ONE CHANGED SHARD IS TOLD -/
theorem tells_end {ts : List ByteArray} {bits : Int} {q i : Nat} {x : ByteArray} {w0 w : World} {e : Ending} (hg : GOk ts (q : Int)) (hi : i < ts.length + q) (hh : (shG (shl ts bits (ts.length + q)) i).1 = true)
    (hm : ts.length < (pres (shl ts bits (ts.length + q))).length) (hx : x.size = len0 ts) (hne : x ≠ shardB ts i)
    (hv : VEnd ((shl ts bits (ts.length + q)).set i (true, x)) (ts.length : Int) w0 e w) : Below w0.heap.size w0 w ∧ e = .returned (.int .i64 6) := by
  obtain ⟨hb, c, rfl, hv⟩ := hv
  refine ⟨hb, ?_⟩
  obtain ⟨l, hl⟩ : ∃ l, shl ts bits (ts.length + q) = l := ⟨_, rfl⟩
  have hll : l.length = ts.length + q := by rw [← hl, shl_length]
  have hbs : ∀ k, k < ts.length + q → (shG l k).1 = true → (shG l k).2 = shardB ts k := fun k hk hh => by rw [← hl] at hh ⊢; exact shl_has hk hh
  have hA : AOk l (ts.length : Int) := by rw [← hl]; exact any_AOk hg
  have hsz : ∀ k, k ∈ pres l → szS l k = len0 ts := fun k hk => by rw [← hl] at hk ⊢; exact any_sz hk
  rw [hl] at hh hm hv
  have hil : i < l.length := by omega
  have hps := pres_set (x := x) hil hh
  have hf : first0 (l.set i (true, x)) = first0 l := by unfold first0; rw [hps]
  have hszs : ∀ k, k ∈ pres l → szS (l.set i (true, x)) k = len0 ts := fun k hk => by
    unfold szS
    rw [shG_set hil]
    by_cases h : k = i
    · rw [if_pos h]; exact hx
    · rw [if_neg h]; exact hsz k hk
  have h0 : first0 l ∈ pres l := first_mem (by omega)
  rcases hv with ⟨_, hbad⟩ | ⟨n, N, hn, _, _, hnp, hmd, ⟨rfl, hall⟩ | ⟨rfl, _⟩⟩
  · exfalso
    rcases hbad with ⟨_, h⟩ | ⟨_, h⟩ | ⟨_, _, _, h2⟩
    · exact h (by unfold AOk at hA ⊢; rw [List.length_set]; exact hA)
    · refine h fun k hk => ?_
      rw [hps] at hk
      rw [hf, hszs k hk, hszs _ h0]
      exact ⟨len0_le hg, rfl⟩
    · rw [hps] at h2; omega
  · exfalso
    obtain rfl : n = ts.length := by omega
    obtain ⟨us, hus⟩ : ∃ us, outsM (l.set i (true, x)) ts.length N ts.length = us := ⟨_, rfl⟩
    have hul : us.length = ts.length := by rw [← hus]; exact outsM_length _ _ _ _
    have husz : ∀ s ∈ us, s.size = len0 ts := fun s hs => by rw [← hus] at hs; rw [outsM_size s hs, hf]; exact hszs _ h0
    have h1 := hg.1
    have hu0 : len0 us = len0 ts := by
      have := husz (us[0]'(by omega)) (List.getElem_mem _)
      unfold len0 at this ⊢
      rw [getD_getB (by omega : 0 < us.length)]
      exact this
    have hou : ∀ k, ought (l.set i (true, x)) ts.length N k = shardB us k := fun k => by
      unfold ought shardB
      rw [hf, hszs _ h0, hus, hul, hu0]
    have hall' : ∀ k ∈ pres l, (shG (l.set i (true, x)) k).2 = shardB us k := fun k hk => by
      rw [← hou]
      refine hall k (by rw [List.length_set]; exact presN_lt hk) ?_
      rw [← hps] at hk
      exact pres_has hk
    have heq : ts = us := by
      have hsp := filter_split (pres l) fun k => decide (k = i)
      have hone : ((pres l).filter fun k => decide (k = i)).length ≤ 1 := by
        refine Nat.le_trans (nodup_len_le (m := [i]) ((List.nodup_range.filter _).filter _) fun k hk => ?_) (Nat.le_refl _)
        have := (List.mem_filter.1 hk).2
        simp only [decide_eq_true_eq] at this
        simp [this]
      refine parts_agree (n := ts.length) hg.2.1 rfl hul (fun s hs => (hg.2.2.2.2 s hs).2) (fun s hs => by rw [hu0]; exact husz s hs) hu0.symm ((pres l).filter fun k => !decide (k = i)) ((List.nodup_range.filter _).filter _) (by omega) ?_ ?_
      · intro s hs
        have h3 := presN_lt (List.mem_filter.1 hs).1
        have h4 := hg.2.2.2.1
        omega
      · intro s hs
        have hsp := (List.mem_filter.1 hs).1
        have hne := (List.mem_filter.1 hs).2
        simp only [Bool.not_eq_true', decide_eq_false_iff_not] at hne
        have h3 := hall' s hsp
        rw [shG_set hil, if_neg hne, hbs s (by have := presN_lt hsp; omega) (pres_has hsp)] at h3
        exact h3
    have hii := hall' i (List.mem_filter.2 ⟨List.mem_range.2 hil, hh⟩)
    rw [shG_set hil, if_pos rfl, ← heq] at hii
    exact hne hii
  · rfl
end Go.Proofs.YtigdpmeeibkifaaDoor
