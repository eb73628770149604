/- Plain law of ShieldAny: any n shards of parts and guards make all parts. -/
import Derived.Test.YtigdpmeeibkifaaDoorShieldShards
import Derived.Test.YtigdpmeeibkifaaDoorShieldMend0
namespace Go.Proofs.YtigdpmeeibkifaaDoor
open Plain
set_option linter.unusedVariables false
set_option linter.unusedSimpArgs false
def oughtB (l : List ShT) (n : Nat) (N : Mtx) (i : Nat) : ByteArray := strOf (comb (szS l (first0 l)) n (rowF n i) (outsM l n N n))
theorem shl_shG {ts : List ByteArray} {bits : Int} {j k : Nat} (h : k < j) : shG (shl ts bits j) k = mkS ts bits k := by
  rw [shG_get (by rw [shl_length]; exact h)]
  simp [shl]
theorem shardB_size (ts : List ByteArray) (k : Nat) : (shardB ts k).size = len0 ts := by
  unfold shardB
  rw [strOf_size]
  exact mapr_length _ _
theorem pres_has {l : List ShT} {k : Nat} (h : k ∈ pres l) : (shG l k).1 = true := (List.mem_filter.1 h).2
theorem shl_has {ts : List ByteArray} {bits : Int} {j k : Nat} (h : k < j) (hh : (shG (shl ts bits j) k).1 = true) : (shG (shl ts bits j) k).2 = shardB ts k := by
  rw [shl_shG h] at hh ⊢
  unfold mkS at hh ⊢
  by_cases e : flag bits k = true
  · rw [if_pos e]
  · rw [if_neg e] at hh
    cases hh
theorem any_sz {ts : List ByteArray} {bits : Int} {j k : Nat} (h : k ∈ pres (shl ts bits j)) : szS (shl ts bits j) k = len0 ts := by
  have hk := presN_lt h
  rw [shl_length] at hk
  unfold szS
  rw [shl_has hk (pres_has h), shardB_size]
theorem first_mem {l : List ShT} (h : 0 < (pres l).length) : first0 l ∈ pres l := by
  have := presN_head (l := l) (i := l.length) (Nat.le_refl _) h
  rw [← this]
  exact List.getElem_mem h
theorem len0_le {ts : List ByteArray} {p : Int} (hg : GOk ts p) : len0 ts ≤ 4096 := by
  obtain ⟨h1, _, _, _, h5⟩ := hg
  have := h5 (ts[0]'(by omega)) (List.getElem_mem _)
  omega
theorem any_POk {ts : List ByteArray} {bits p : Int} {j : Nat} (hg : GOk ts p) : POk (shl ts bits j) := by
  intro k hk
  have h0 : 0 < (pres (shl ts bits j)).length := List.length_pos_of_mem hk
  rw [any_sz hk, any_sz (first_mem h0)]
  exact ⟨len0_le hg, rfl⟩
theorem any_AOk {ts : List ByteArray} {bits : Int} {q : Nat} (hg : GOk ts (q : Int)) : AOk (shl ts bits (ts.length + q)) (ts.length : Int) := by
  obtain ⟨h1, h2, h3, h4, _⟩ := hg
  refine ⟨by omega, by omega, ?_, ?_⟩ <;> rw [shl_length] <;> omega
theorem comb_byte {len n t : Nat} {f : Nat → Nat} {ts : List ByteArray} (hf : Byt f) (ht : t < len) : (strN (strOf (comb len n f ts))).getD t 0 = dotN n f fun j => txt ts j t := by
  rw [strN_strOf _ (comb_lt hf)]
  unfold comb
  exact mapr_getD ht
theorem dot_congr {n : Nat} {a x y : Nat → Nat} (h : ∀ k, k < n → x k = y k) : dotN n a x = dotN n a y := xsum_congr fun k hk => by rw [h k hk]
theorem any_mend {ts : List ByteArray} {bits : Int} {q : Nat} {N : Mtx} (hg : GOk ts (q : Int)) (hn : ts.length ≤ (pres (shl ts bits (ts.length + q))).length) (hm : Mended (shl ts bits (ts.length + q)) ts.length N) :
    outsM (shl ts bits (ts.length + q)) ts.length N ts.length = ts := by
  obtain ⟨hb, _, hinv⟩ := hm
  have hg' := hg
  obtain ⟨h1, h2, h3, h4, h5⟩ := hg
  have hL : szS (shl ts bits (ts.length + q)) (first0 (shl ts bits (ts.length + q))) = len0 ts := any_sz (first_mem (by omega))
  apply List.ext_getElem
  · rw [outsM_length]
  · intro r hr1 hr2
    simp only [outsM, List.getElem_map, List.getElem_range]
    rw [hL]
    apply strN_inj
    rw [strN_strOf _ (comb_lt (hb r))]
    apply List.ext_getElem
    · rw [strN_length, (h5 _ (List.getElem_mem hr2)).2]
      exact mapr_length _ _
    · intro t ht1 ht2
      have ht : t < len0 ts := by
        have : (comb (len0 ts) ts.length (N r) (txs (shl ts bits (ts.length + q)) ts.length)).length = len0 ts := mapr_length _ _
        omega
      simp only [comb, mapr, List.getElem_map, List.getElem_range]
      have key : dotN ts.length (N r) (fun j => txt (txs (shl ts bits (ts.length + q)) ts.length) j t) = dotN ts.length (N r) (fun s => dotN ts.length (rowF ts.length (prs (shl ts bits (ts.length + q)) s)) fun k => txt ts k t) := by
        refine dot_congr fun s hs => ?_
        have hsp : s < (pres (shl ts bits (ts.length + q))).length := by omega
        have hlt := prs_lt hsp
        rw [shl_length] at hlt
        unfold txt
        rw [getD_getB (by rw [txs_length]; exact hs)]
        have e : (txs (shl ts bits (ts.length + q)) ts.length)[s]'(by rw [txs_length]; exact hs) = shardB ts (prs (shl ts bits (ts.length + q)) s) := by
          simp only [txs, List.getElem_map, List.getElem_range]
          exact shl_has hlt (pres_has (prs_mem hsp))
        rw [e]
        unfold shardB
        exact comb_byte (rowF_byt _ _) ht
      rw [key, hinv (fun k => txt ts k t) (txt_byt ts t) r hr2]
      unfold txt
      rw [getD_getB hr2, List.getD_eq_getElem?_getD, List.getElem?_eq_getElem ht2]
      rfl
theorem any_ought {ts : List ByteArray} {bits : Int} {q : Nat} {N : Mtx} (hg : GOk ts (q : Int)) (hn : ts.length ≤ (pres (shl ts bits (ts.length + q))).length) (hm : Mended (shl ts bits (ts.length + q)) ts.length N) (i : Nat) :
    oughtB (shl ts bits (ts.length + q)) ts.length N i = shardB ts i := by
  unfold oughtB
  rw [any_mend hg hn hm, any_sz (first_mem (by have := hg.1; omega))]
  rfl
theorem any_lost {ts : List ByteArray} {bits : Int} {q c : Nat} (hg : GOk ts (q : Int)) (hb : BadC (shl ts bits (ts.length + q)) (ts.length : Int) c) : c = 7 ∧ (pres (shl ts bits (ts.length + q))).length < ts.length := by
  rcases hb with ⟨_, h⟩ | ⟨_, h⟩ | ⟨h, _, _, h2⟩
  · exact absurd (any_AOk hg) h
  · exact absurd (any_POk hg) h
  · exact ⟨h, by omega⟩
end Go.Proofs.YtigdpmeeibkifaaDoor
