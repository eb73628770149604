/- The walk of heap.pop. -/
import Derived.Test.YtbfhhnpoogmlnaaDoorHuffPush
namespace Go.Proofs.YtbfhhnpoogmlnaaDoor
open Go.RowKit Plain
set_option linter.unusedVariables false
set_option linter.unusedSimpArgs false
theorem own_take {w : World} {base : Nat} {e : TypeId} {k n m cap : Nat} {a : Option Addr} {xs : List Value} (h : w.ownsRow base e k (.slice a n cap) n xs) (hm : m ≤ n) (ha : a ≠ none) : w.ownsRow base e k (.slice a m cap) m (xs.take (m * k)) := by
  have h1 := h.1
  have hmk : m * k ≤ n * k := Nat.mul_le_mul_right _ hm
  refine ⟨by rw [List.length_take]; omega, ?_⟩
  rcases h.2 with ⟨e1, _⟩ | ⟨g, c, cur, e1, h2, h3, h4, h5, h6, h7⟩
  · injection e1 with e1 _ _
    exact absurd e1 ha
  · injection e1 with e1 _ e2
    refine .inr ⟨g, c, cur, by rw [e1, e2], h2, h3, by omega, h5, h6, ?_⟩
    rw [← h7, List.take_take, Nat.min_eq_left hmk]
theorem own_only {w w' : World} {base : Nat} {e : TypeId} {k n cap g : Nat} {xs : List Value} {m : Nat} (h : w.ownsRow base e k (.slice (some ⟨g, 0, none⟩) m cap) n xs) (hb : w'.heap[g]? = w.heap[g]?) : w'.ownsRow base e k (.slice (some ⟨g, 0, none⟩) m cap) n xs := by
  refine ⟨h.1, ?_⟩
  rcases h.2 with ⟨e1, _⟩ | ⟨g', c, cur, e1, h2, h3, h4⟩
  · cases e1
  · injection e1 with e1 e2 e3
    injection e1 with e1
    injection e1 with e1 _ _
    subst e1
    exact .inr ⟨g, c, cur, by rw [e2, e3], h2, hb.trans h3, h4⟩
/-- on the way: the heap, the result's row, the row of what is taken out -/
structure PoS (B0 hb g cap rb : Nat) (x0 : TV) (L : List TV) (w0 u : World) : Prop where
  hs : HpS B0 hb (some ⟨g, 0, none⟩) cap L u
  kp : Kp w0 u
  bl : Below B0 w0 u
  rr : u.heap[rb]? = some (.cells #[.int .i64 0, .int .i64 0, .slice none 0 0] 179 (0, 0))
  oo : u.heap[rb + 1]? = some (.cells (hC x0).toArray 179 (0, 0))
  gl : g < rb
  gb : B0 ≤ g
  b0 : B0 ≤ w0.heap.size
section
variable {B0 hb g cap rb : Nat} {x0 : TV} {L : List TV} {w0 u u' : World}
theorem PoS.below (h : PoS B0 hb g cap rb x0 L w0 u) (hb' : Below u.heap.size u u') : PoS B0 hb g cap rb x0 L w0 u' :=
  ⟨h.hs.below hb', h.kp.trans (Kp.below hb'), Below.trans h.bl (hb'.mono (Nat.le_trans h.b0 h.kp.1)), (hb'.block _ (lt_of_block h.rr)).trans h.rr, (hb'.block _ (lt_of_block h.oo)).trans h.oo, h.gl, h.gb, h.b0⟩
theorem PoS.put (h : PoS B0 hb g cap rb x0 L w0 u) (hn : 0 < L.length) (i : Nat) (hi : i < L.length) (x : TV) : PoS B0 hb g cap rb x0 (L.set i x) w0 (u.setCells g (i * 3) (hC x)) :=
  have hg := h.gl
  ⟨h.hs.put hn i hi x, h.kp.trans (h.hs.kp hn _ _), below_setCells h.gb _ _ h.bl, (heap_setCells_other _ _ (by omega) _ _ _).trans h.rr, (heap_setCells_other _ _ (by omega) _ _ _).trans h.oo, h.gl, h.gb, h.b0⟩
theorem PoS.cut (h : PoS B0 hb g cap rb x0 L w0 u) {m : Nat} (hm : m ≤ L.length) (hr : hb < rb) : PoS B0 hb g cap rb x0 (L.take m) w0 (u.setCell ⟨hb, 0, none⟩ (.slice (some ⟨g, 0, none⟩) m cap)) := by
  have ho := own_take h.hs.own hm (by simp)
  rw [flat_take hC_length L m hm] at ho
  have hl : (L.take m).length = m := by rw [List.length_take]; omega
  have h1 := h.hs.slice (A' := some ⟨g, 0, none⟩) (cap' := cap) (L' := L.take m) (by rw [hl]; exact ho)
  rw [hl] at h1
  exact ⟨h1, h.kp.trans (Kp.set h.hs.row (.inr rfl) 0 [.slice (some ⟨g, 0, none⟩) m cap]), below_setCells h.hs.base [.slice (some ⟨g, 0, none⟩) m cap] 0 h.bl, (heap_setCell_other u ⟨hb, 0, none⟩ _ _ (by simp only; omega)).trans h.rr, (heap_setCell_other u ⟨hb, 0, none⟩ _ _ (by simp only; omega)).trans h.oo, h.gl, h.gb, h.b0⟩
end
/-- the least among an item and those of its children that were looked at -/
def Lst (L : List TV) (i j lst : Nat) : Prop := (lst = i ∨ (0 < lst ∧ (lst - 1) / 2 = i ∧ ∃ (h : lst < L.length), ∀ h' : i < L.length, ¬ leT L[i] L[lst])) ∧ ∀ (hl : lst < L.length) (q : Nat), q < j → ∀ hq : 2 * i + 1 + q < L.length, leT L[lst] L[2 * i + 1 + q]
theorem Lst.start (L : List TV) (i : Nat) : Lst L i 0 i := ⟨.inl rfl, fun _ q hq => absurd hq (Nat.not_lt_zero q)⟩
theorem Lst.stay {L : List TV} {i j lst : Nat} (h : Lst L i j lst) (hk : ∀ (hl : lst < L.length) (hk : 2 * i + 1 + j < L.length), leT L[lst] L[2 * i + 1 + j]) : Lst L i (j + 1) lst := ⟨h.1, fun hl q hq hq2 => by
  rcases Nat.lt_or_ge q j with h1 | h1
  · exact h.2 hl q h1 hq2
  · obtain rfl : q = j := by omega
    exact hk hl hq2⟩
theorem Lst.go {L : List TV} {i j lst : Nat} (h : Lst L i j lst) (hj : j < 2) (hl : lst < L.length) (hk : 2 * i + 1 + j < L.length) (hn : ¬ leT L[lst] L[2 * i + 1 + j]) : Lst L i (j + 1) (2 * i + 1 + j) := by
  have hkl : leT L[2 * i + 1 + j] L[lst] := (leT_total _ _).resolve_left hn
  refine ⟨.inr ⟨by omega, by omega, hk, fun h' hle => ?_⟩, fun _ q hq hq2 => ?_⟩
  · rcases h.1 with rfl | ⟨_, _, h3, h4⟩
    · exact hn hle
    · exact hn (leT_trans _ _ _ ((leT_total _ _).resolve_left (h4 h')) hle)
  · rcases Nat.lt_or_ge q j with h1 | h1
    · exact leT_trans _ _ _ hkl (h.2 hl q h1 hq2)
    · obtain rfl : q = j := by omega
      exact leT_refl _
theorem Lst.lt {L : List TV} {i j lst : Nat} (h : Lst L i j lst) (hi : i < L.length) : lst < L.length := by
  rcases h.1 with rfl | ⟨_, _, h3, _⟩
  · exact hi
  · exact h3
theorem Lst.done {L : List TV} {i : Nat} (h : Lst L i 2 i) (hd : HpDn leT L i) : Hp leT L := hd.done fun j j0 hj hjl => by
  have h1 := h.2 (by omega) (j - (2 * i + 1)) (by omega) (by omega)
  have e : 2 * i + 1 + (j - (2 * i + 1)) = j := by omega
  simp only [e] at h1
  exact h1
theorem Lst.swap {L : List TV} {i lst : Nat} (h : Lst L i 2 lst) (hne : lst ≠ i) (hd : HpDn leT L i) : ∃ (hl : lst < L.length) (hi : i < L.length), i < lst ∧ HpDn leT (swp L lst i hl hi) lst := by
  rcases h.1 with e | ⟨h0, h1, h2, h3⟩
  · exact absurd e hne
  · have hi : i < L.length := by omega
    refine ⟨h2, hi, by omega, hd.step leT_trans hi h2 h0 h1 ((leT_total _ _).resolve_left (h3 hi)) fun j j0 hj hjl => ?_⟩
    have h4 := h.2 h2 (j - (2 * i + 1)) (by omega) (by omega)
    have e : 2 * i + 1 + (j - (2 * i + 1)) = j := by omega
    simp only [e] at h4
    exact h4
def PoEnd (B0 hb : Nat) (w0 : World) (L : List TV) (e : Ending) (w : World) : Prop := ∃ x, e = .returned (.agg (hC x).toArray) ∧ Below B0 w0 w ∧ Kp w0 w ∧ ∃ A cap L', HpS B0 hb A cap L' w ∧ L.Perm (x :: L') ∧ Hp leT L' ∧ ∀ y ∈ L, leT x y
set_option maxRecDepth 100000 in
set_option maxHeartbeats 4000000 in
theorem pop_any (B0 hb : Nat) (A : Option Addr) (cap : Nat) (L : List TV) (w : World) (h : HpS B0 hb A cap L w) (hp : Hp leT L) (h1 : 0 < L.length) (hl : L.length ≤ 1000) (hok : ∀ t ∈ L, OkT t) :
    Calls Tryd.prog 109 #[.pointer (some ⟨hb, 0, none⟩)] w (PoEnd B0 hb w L) := by
  have HIT : Hid ((Tryd.prog.info? 179).map (·.size) = some 3) := by show _ = _; kernel_rfl
  have HLT : Hid (hb < w.heap.size) := lt_of_block h.row
  have HCMP := Lib.hid fun y z u h1 h2 => cmpT_any y z u h1 h2
  obtain ⟨g, hA, hgB, hgh, cur, hcur, _⟩ := h.addr h1
  subst hA
  obtain ⟨x0, hx0⟩ : ∃ x0, L[0] = x0 := ⟨_, rfl⟩
  have HX0 := Lib.hid hx0
  have HMIN : Hid (∀ y ∈ L, leT x0 y) := fun y hy => by
    obtain ⟨i, hi, rfl⟩ := List.mem_iff_getElem.1 hy
    rw [← hx0]
    exact hp.min leT_trans leT_refl i hi
  have HHP := Lib.hid hp
  have HOK := Lib.hid hok
  have HB0 : Hid (B0 ≤ w.heap.size) := Nat.le_trans h.base (Nat.le_of_lt (lt_of_block h.row))
  have HZ : Hid ((zeroValue 179).run Tryd.prog w = .ok (.agg #[.int .i64 0, .int .i64 0, .slice none 0 0]) w) := by show _ = _; kernel_rfl
  have hz := HZ.out
  have HBA := Lib.hid (((Below.refl w.heap.size w).alloc (Nat.le_refl _) (.cells #[.int .i64 0, .int .i64 0, .slice none 0 0] 179)).alloc (by simp) (.cells (hC x0).toArray 179))
  have HPS : Hid (PoS B0 hb g cap w.heap.size x0 L w ((w.alloc (.cells #[.int .i64 0, .int .i64 0, .slice none 0 0] 179)).alloc (.cells (hC x0).toArray 179))) :=
    ⟨h.below HBA.out, Kp.below HBA.out, HBA.out.mono HB0.out, (heap_twoK w _ _).1, (heap_twoK w _ _).2, lt_of_block hcur, hgB, HB0.out⟩
  have k0 : (w.alloc (.cells #[.int .i64 0, .int .i64 0, .slice none 0 0] 179)).cell? ⟨g, 0, none⟩ = some (.int .i64 (x0.1 : Int)) := by
    rw [World.cell?_of_block (a := ⟨g, 0, none⟩) (Below.heap_alloc w _ g (lt_of_block hcur))]
    have := h.range 0 h1 0 _ rfl
    rw [hx0] at this
    simpa using this
  have k1 : (w.alloc (.cells #[.int .i64 0, .int .i64 0, .slice none 0 0] 179)).cell? ⟨g, 1, none⟩ = some (.int .i64 (x0.2.1 : Int)) := by
    rw [World.cell?_of_block (a := ⟨g, 1, none⟩) (Below.heap_alloc w _ g (lt_of_block hcur))]
    have := h.range 0 h1 1 _ rfl
    rw [hx0] at this
    simpa using this
  have k2 : (w.alloc (.cells #[.int .i64 0, .int .i64 0, .slice none 0 0] 179)).cell? ⟨g, 2, none⟩ = some (.slice x0.2.2.1 x0.2.2.2.2.length x0.2.2.2.1) := by
    rw [World.cell?_of_block (a := ⟨g, 2, none⟩) (Below.heap_alloc w _ g (lt_of_block hcur))]
    have := h.range 0 h1 2 _ rfl
    rw [hx0] at this
    simpa using this
  have q0 : (w.alloc (.cells #[.int .i64 0, .int .i64 0, .slice none 0 0] 179)).cell? ⟨hb, 0, none⟩ = some (.slice (some ⟨g, 0, none⟩) L.length cap) := by
    rw [World.cell?_of_block (a := ⟨hb, 0, none⟩) (Below.heap_alloc w _ hb (lt_of_block h.row)), cell_of_row _ _ _ _ _ _ h.row]
    rfl
  have r0 := cell_of_row _ _ 0 _ _ _ HPS.out.hs.row
  simp only [List.getElem?_toArray, List.getElem?_cons_zero] at r0
  have m0 : (0 : Int) < (L.length : Int) := by omega
  clear h hp hok hx0 hcur
  simp only [hC] at HPS HBA r0
  go_enter Tryd.func109, Tryd.ntmps109
  go_wp2_with fail
  generalize ((w.alloc (.cells #[.int .i64 0, .int .i64 0, .slice none 0 0] 179)).alloc (.cells #[.int .i64 (x0.1 : Int), .int .i64 (x0.2.1 : Int), .slice x0.2.2.1 x0.2.2.2.2.length x0.2.2.2.1] 179)) = u1 at *
  obtain ⟨m, hm⟩ : ∃ m, L.length = m + 1 := ⟨L.length - 1, by omega⟩
  have em : (L.length : Int) - 1 = (m : Int) := by omega
  rw [em]
  have HM := Lib.hid hm
  have mm : (m : Int) < (L.length : Int) := by omega
  have mz : (0 : Int) ≤ (m : Int) := Int.natCast_nonneg _
  have hcap := own_capK HPS.out.hs.own
  have mc : (m : Int) ≤ (cap : Int) := by omega
  have hm1 : m ≤ 999 := by omega
  have hml : m < L.length := by omega
  have hcp : cap ≤ 9223372036854775807 := hcap.2
  clear em hm hcap k0 k1 k2 q0 r0 hz
  refine wp_region_noPanic ?_
  refine wp_region_held_drew (S := fun v => v.heap[hb]? = some (.cells (hpV (some ⟨g, 0, none⟩) L.length cap) 184 (0, 0))) (by kernel_rfl) HPS.out.hs.row (fun hS0 => ?_)
  have HS0 := Lib.hid hS0
  clear hS0
  have HP5 := Lib.hid (HPS.out.below (Below.refl _ _).drew)
  clear HPS
  generalize u1.drew = u5 at *
  refine take_val 0 (.pointer (some ⟨hb, 0, none⟩)) rfl (by kernel_rfl) (by kernel_rfl) (by kernel_rfl) (fun _ _ _ _ h => h) (by rfl) rfl (fun wz hS => by go_simp) HS0.out ?_
  try simp only [List.set_cons_zero, List.set_cons_succ]
  refine take_val 1 (.pointer (some ⟨hb, 0, none⟩)) rfl (by kernel_rfl) (by kernel_rfl) (by kernel_rfl) (fun _ _ _ _ h => h) (by rfl) rfl (fun wz hS => by go_simp) HS0.out ?_
  try simp only [List.set_cons_zero, List.set_cons_succ]
  refine take_val 2 (.pointer (some ⟨hb, 0, none⟩)) rfl (by kernel_rfl) (by kernel_rfl) (by kernel_rfl) (fun _ _ _ _ h => h) (by rfl) rfl (fun wz hS => by go_simp) HS0.out ?_
  try simp only [List.set_cons_zero, List.set_cons_succ]
  refine take_val 3 (.slice (some ⟨g, 0, none⟩) L.length cap) rfl (by kernel_rfl) (by kernel_rfl) (by kernel_rfl) (fun _ _ _ _ h => h) (by rfl) rfl (fun wz hS => by have hz := cell_of_row _ _ 0 _ _ _ hS; simp only [List.getElem?_toArray, List.getElem?_cons_succ, List.getElem?_cons_zero] at hz; go_simp) HS0.out ?_
  try simp only [List.set_cons_zero, List.set_cons_succ]
  refine take_val 4 (.pointer (some ⟨hb, 0, none⟩)) rfl (by kernel_rfl) (by kernel_rfl) (by kernel_rfl) (fun _ _ _ _ h => h) (by rfl) rfl (fun wz hS => by go_simp) HS0.out ?_
  try simp only [List.set_cons_zero, List.set_cons_succ]
  refine take_val 5 (.pointer (some ⟨hb, 0, none⟩)) rfl (by kernel_rfl) (by kernel_rfl) (by kernel_rfl) (fun _ _ _ _ h => h) (by rfl) rfl (fun wz hS => by go_simp) HS0.out ?_
  try simp only [List.set_cons_zero, List.set_cons_succ]
  refine take_val 6 (.pointer (some ⟨hb, 0, none⟩)) rfl (by kernel_rfl) (by kernel_rfl) (by kernel_rfl) (fun _ _ _ _ h => h) (by rfl) rfl (fun wz hS => by go_simp) HS0.out ?_
  try simp only [List.set_cons_zero, List.set_cons_succ]
  refine take_val 7 (.slice (some ⟨g, 0, none⟩) L.length cap) rfl (by kernel_rfl) (by kernel_rfl) (by kernel_rfl) (fun _ _ _ _ h => h) (by rfl) rfl (fun wz hS => by have hz := cell_of_row _ _ 0 _ _ _ hS; simp only [List.getElem?_toArray, List.getElem?_cons_succ, List.getElem?_cons_zero] at hz; go_simp) HS0.out ?_
  try simp only [List.set_cons_zero, List.set_cons_succ]
  refine take_val 8 (.int .i64 (m : Int)) rfl (by kernel_rfl) (by kernel_rfl) (by kernel_rfl) (fun _ _ _ _ h => h) (by rfl) rfl (fun wz hS => by go_simp) HS0.out ?_
  try simp only [List.set_cons_zero, List.set_cons_succ]
  refine take_val 9 (.pointer (some ⟨g, m * 3, none⟩)) rfl (by kernel_rfl) (by kernel_rfl) (by kernel_rfl) (fun _ _ _ _ h => h) (by rfl) rfl (fun wz hS => by go_simp) HS0.out ?_
  try simp only [List.set_cons_zero, List.set_cons_succ]
  refine one_ready 10 (by kernel_rfl) rfl (by rfl) (fun K hK => ?_)
  refine wp_load_mid 179 _ rfl g (m * 3) rfl (hC (L[m]'hml)) _ (HP5.out.hs.range m hml) Tryd.underlying179 rfl HIT.out ?_
  refine hK.out _ _ HS0.out ?_
  clear hK K
  try simp only [Act.put, List.setIfInBounds_toArray]
  try simp only [List.set_cons_zero, List.set_cons_succ]
  refine take_val 11 (.pointer (some ⟨g, 0, none⟩)) rfl (by kernel_rfl) (by kernel_rfl) (by kernel_rfl) (fun _ _ _ _ h => h) (by rfl) rfl (fun wz hS => by go_simp) HS0.out ?_
  try simp only [List.set_cons_zero, List.set_cons_succ]
  refine one_ready 12 (by kernel_rfl) rfl (by rfl) (fun K hK => ?_)
  refine wp_store_mid 179 _ _ rfl g (0 * 3) (hC (L[m]'hml)).toArray rfl rfl (HP5.out.hs.there h1 0 h1) HIT.out (all_oneCell_toArray (hC_one _)) ?_
  have HP7 := Lib.hid (HP5.out.put h1 0 h1 (L[m]'hml))
  have hs7 := HP7.out.hs.row
  rw [List.length_set] at hs7
  refine hK.out _ _ hs7 ?_
  clear hK K
  try simp only [Act.put, List.setIfInBounds_toArray]
  try simp only [List.set_cons_zero, List.set_cons_succ]
  clear hs7 HS0 HP5
  refine wpAnyH_done (by kernel_rfl) ?_ _
  refine NoPanic.normal ?_
  generalize u5.setCells g (0 * 3) (hC (L[m]'hml)) = u7 at *
  obtain ⟨L2, hL2⟩ : ∃ L2, L.set 0 (L[m]'hml) = L2 := ⟨_, rfl⟩
  have HL2 : Hid (L2.length = m + 1) := by show _ = _; rw [← hL2, List.length_set]; exact HM.out
  have HP2 : Hid (L.Perm (x0 :: L2.take m)) := by
    have h := pop_perm h1
    have e : L.length - 1 = m := by have := HM.out; omega
    simp only [e] at h
    rw [HX0.out, hL2] at h
    exact h
  have HD2 : Hid (HpDn leT (L2.take m) 0) := by
    have h := HpDn.pop HHP.out h1
    have e : L.length - 1 = m := by have := HM.out; omega
    simp only [e] at h
    rw [hL2] at h
    exact h
  rw [hL2] at HP7
  clear hL2
  have r0 := cell_of_row _ _ 0 _ _ _ HP7.out.hs.row
  have f0 := frozen_of_row _ _ 0 _ _ HP7.out.hs.row
  simp only [List.getElem?_toArray, List.getElem?_cons_zero] at r0
  have HP8 := Lib.hid (HP7.out.cut (m := m) (by have := HL2.out; omega) HLT.out)
  have HL3 : Hid ((L2.take m).length = m) := by show _ = _; rw [List.length_take, HL2.out]; omega
  have mm2 : (m : Int) ≤ (L2.length : Int) := by have := HL2.out; omega
  go_wp2_with fail
  clear r0 f0
  generalize u7.setCell ⟨hb, 0, none⟩ (.slice (some ⟨g, 0, none⟩) m cap) = u8 at *
  generalize L2.take m = L3 at *
  clear HP7 HL2 mm2
  go_loopw [5] (fun iv wr => ∃ (i : Nat) (L' : List TV), iv = .int .i64 (i : Int) ∧ i ≤ m ∧ Hid (L'.length = m) ∧ Hid (L'.Perm L3) ∧ Hid (HpDn leT L' i) ∧ Hid (PoS B0 hb g cap w.heap.size x0 L' w wr)) (fun iv _ => m + 1 - (intOf iv).toNat)
  case atStart => exact ⟨0, L3, rfl, Nat.zero_le _, HL3, Lib.hid (.refl _), HD2, HP8⟩
  case round =>
    clear HP8 HD2 HL3
    obtain ⟨i, L', rfl, hi, HLN, HPE, HDN, HPS⟩ := hrel
    obtain ⟨wo, rfl⟩ : ∃ wo : World, wo = wr := ⟨_, rfl⟩
    have m0 : (0 : Int) ≤ (i : Int) := Int.natCast_nonneg _
    obtain ⟨k1, hk1⟩ : ∃ k1, 2 * i + 1 = k1 := ⟨_, rfl⟩
    obtain ⟨k2, hk2⟩ : ∃ k2, 2 * i + 2 = k2 := ⟨_, rfl⟩
    have e1 : 2 * (i : Int) + 1 = (k1 : Int) := by omega
    have e2 : 2 * (i : Int) + 2 = (k2 : Int) := by omega
    have HK1 := Lib.hid hk1
    have HK2 := Lib.hid hk2
    have kb1 : (k1 : Int) ≤ 3000 := by omega
    have kb2 : (k2 : Int) ≤ 3000 := by omega
    clear hk1 hk2
    have HOKL : Hid (∀ (q : Nat) (h : q < L'.length), OkT L'[q]) := fun q h => HOK.out _ ((HP2.out.mem_iff).2 (List.mem_cons_of_mem _ (HPE.out.mem_iff.1 (List.getElem_mem h))))
    go_wp2_with fail
    try simp only [e1, e2]
    clear e1 e2
    go_loopw [50, 6] (fun jv lv wr => ∃ (j : Int) (lst : Nat), jv = .int .i64 j ∧ lv = .int .i64 (lst : Int) ∧ 0 ≤ j ∧ j ≤ 2 ∧ lst ≤ 3000 ∧ Hid (Lst L' i j.toNat lst) ∧ Hid (Below wo.heap.size wo wr)) (fun jv _ _ => 2 - (intOf jv).toNat)
    case atStart => exact ⟨0, i, rfl, rfl, by omega, by omega, by omega, Lib.hid (Lst.start L' i), Lib.hid (Below.refl _ _)⟩
    case round =>
      obtain ⟨j, lst, rfl, rfl, j0, j2, hlst, HLS, HBW⟩ := hrel
      have l0 : (0 : Int) ≤ (lst : Int) := Int.natCast_nonneg _
      by_cases jA : j = 0
      · obtain rfl := jA
        have hix : ∀ u : World, (Instr.index 243 (.agg #[.int .i64 (k1 : Int), .int .i64 (k2 : Int)]) (.int .i64 0)).run Tryd.prog u = .ok (.int .i64 (k1 : Int)) u := fun u => by kernel_rfl
        have HKJ : Hid (2 * i + 1 + 0 = k1) := by have h := HK1.out; show _ = _; omega
        by_cases hkm : k1 < m
        · have c1 : (k1 : Int) < (m : Int) := by omega
          have hkl : k1 < L'.length := by have := HLN.out; omega
          have hil : i < L'.length := by have := HLN.out; have := HKJ.out; omega
          have hll : lst < L'.length := HLS.out.lt hil
          have c2 : (k1 : Int) < (L'.length : Int) := by omega
          have c3 : (lst : Int) < (L'.length : Int) := by omega
          have c4 : (0 : Int) ≤ (k1 : Int) := Int.natCast_nonneg _
          have HPW := Lib.hid (HPS.out.below HBW.out)
          go_wp2_with fail
          refine wp_region_noPanic ?_
          refine wp_region_held_drew (S := fun v => HpS B0 hb (some ⟨g, 0, none⟩) cap L' v) (by kernel_rfl) (HPW.out.hs.below (Below.refl _ _).drew) (fun hS0 => ?_)
          have HS0 := Lib.hid hS0
          clear hS0
          have HBD := Lib.hid HBW.out.drew
          clear HPW
          generalize wr.drew = u5 at *
          refine take_val 0 (.int .i64 (k1 : Int)) rfl (by kernel_rfl) (by kernel_rfl) (by kernel_rfl) (fun _ _ _ _ h => h) (by rfl) rfl (fun wz hS => by go_simp) HS0.out ?_
          try simp only [List.set_cons_zero, List.set_cons_succ]
          refine take_val 1 (.int .i64 (m : Int)) rfl (by kernel_rfl) (by kernel_rfl) (by kernel_rfl) (fun _ _ _ _ h => h) (by rfl) rfl (fun wz hS => by go_simp) HS0.out ?_
          try simp only [List.set_cons_zero, List.set_cons_succ]
          refine take_val 2 (.bool true) rfl (by kernel_rfl) (by kernel_rfl) (by kernel_rfl) (fun _ _ _ _ h => h) (by rfl) rfl (fun wz hS => by go_simp) HS0.out ?_
          try simp only [List.set_cons_zero, List.set_cons_succ]
          refine take_val 3 (.bool true) rfl (by kernel_rfl) (by kernel_rfl) (by kernel_rfl) (fun _ _ _ _ h => h) (by rfl) rfl (fun wz hS => by go_simp) HS0.out ?_
          try simp only [List.set_cons_zero, List.set_cons_succ]
          refine take_val 4 (.pointer (some ⟨hb, 0, none⟩)) rfl (by kernel_rfl) (by kernel_rfl) (by kernel_rfl) (fun _ _ _ _ h => h) (by rfl) rfl (fun wz hS => by go_simp) HS0.out ?_
          try simp only [List.set_cons_zero, List.set_cons_succ]
          refine take_val 5 (.pointer (some ⟨hb, 0, none⟩)) rfl (by kernel_rfl) (by kernel_rfl) (by kernel_rfl) (fun _ _ _ _ h => h) (by rfl) rfl (fun wz hS => by go_simp) HS0.out ?_
          try simp only [List.set_cons_zero, List.set_cons_succ]
          refine take_val 6 (.pointer (some ⟨hb, 1, none⟩)) rfl (by kernel_rfl) (by kernel_rfl) (by kernel_rfl) (fun _ _ _ _ h => h) (by rfl) rfl (fun wz hS => by go_simp) HS0.out ?_
          try simp only [List.set_cons_zero, List.set_cons_succ]
          refine take_val 7 (.func (.func 106) #[] #[]) rfl (by kernel_rfl) (by kernel_rfl) (by kernel_rfl) (fun _ _ _ _ h => h) (by rfl) rfl (fun wz hS => by have hz := cell_of_row _ _ 1 _ _ _ hS.row; simp only [List.getElem?_toArray, List.getElem?_cons_succ, List.getElem?_cons_zero] at hz; go_simp) HS0.out ?_
          try simp only [List.set_cons_zero, List.set_cons_succ]
          refine take_val 8 (.pointer (some ⟨hb, 0, none⟩)) rfl (by kernel_rfl) (by kernel_rfl) (by kernel_rfl) (fun _ _ _ _ h => h) (by rfl) rfl (fun wz hS => by go_simp) HS0.out ?_
          try simp only [List.set_cons_zero, List.set_cons_succ]
          refine take_val 9 (.pointer (some ⟨hb, 0, none⟩)) rfl (by kernel_rfl) (by kernel_rfl) (by kernel_rfl) (fun _ _ _ _ h => h) (by rfl) rfl (fun wz hS => by go_simp) HS0.out ?_
          try simp only [List.set_cons_zero, List.set_cons_succ]
          refine take_val 10 (.pointer (some ⟨hb, 0, none⟩)) rfl (by kernel_rfl) (by kernel_rfl) (by kernel_rfl) (fun _ _ _ _ h => h) (by rfl) rfl (fun wz hS => by go_simp) HS0.out ?_
          try simp only [List.set_cons_zero, List.set_cons_succ]
          refine take_val 11 (.slice (some ⟨g, 0, none⟩) L'.length cap) rfl (by kernel_rfl) (by kernel_rfl) (by kernel_rfl) (fun _ _ _ _ h => h) (by rfl) rfl (fun wz hS => by have hz := cell_of_row _ _ 0 _ _ _ hS.row; simp only [List.getElem?_toArray, List.getElem?_cons_succ, List.getElem?_cons_zero] at hz; go_simp) HS0.out ?_
          try simp only [List.set_cons_zero, List.set_cons_succ]
          refine take_val 12 (.int .i64 (k1 : Int)) rfl (by kernel_rfl) (by kernel_rfl) (by kernel_rfl) (fun _ _ _ _ h => h) (by rfl) rfl (fun wz hS => by go_simp) HS0.out ?_
          try simp only [List.set_cons_zero, List.set_cons_succ]
          refine take_val 13 (.pointer (some ⟨g, k1 * 3, none⟩)) rfl (by kernel_rfl) (by kernel_rfl) (by kernel_rfl) (fun _ _ _ _ h => h) (by rfl) rfl (fun wz hS => by go_simp) HS0.out ?_
          try simp only [List.set_cons_zero, List.set_cons_succ]
          refine take_row 14 (cs := hC (L'[k1]'hkl)) rfl (by kernel_rfl) (by kernel_rfl) (by kernel_rfl) (fun _ _ _ _ h => h) (by rfl) rfl rfl rfl (fun _ hS => hS.range k1 hkl) Tryd.underlying179 rfl HIT.out HS0.out ?_
          try simp only [List.set_cons_zero, List.set_cons_succ]
          refine take_val 15 (.pointer (some ⟨hb, 0, none⟩)) rfl (by kernel_rfl) (by kernel_rfl) (by kernel_rfl) (fun _ _ _ _ h => h) (by rfl) rfl (fun wz hS => by go_simp) HS0.out ?_
          try simp only [List.set_cons_zero, List.set_cons_succ]
          refine take_val 16 (.pointer (some ⟨hb, 0, none⟩)) rfl (by kernel_rfl) (by kernel_rfl) (by kernel_rfl) (fun _ _ _ _ h => h) (by rfl) rfl (fun wz hS => by go_simp) HS0.out ?_
          try simp only [List.set_cons_zero, List.set_cons_succ]
          refine take_val 17 (.pointer (some ⟨hb, 0, none⟩)) rfl (by kernel_rfl) (by kernel_rfl) (by kernel_rfl) (fun _ _ _ _ h => h) (by rfl) rfl (fun wz hS => by go_simp) HS0.out ?_
          try simp only [List.set_cons_zero, List.set_cons_succ]
          refine take_val 18 (.slice (some ⟨g, 0, none⟩) L'.length cap) rfl (by kernel_rfl) (by kernel_rfl) (by kernel_rfl) (fun _ _ _ _ h => h) (by rfl) rfl (fun wz hS => by have hz := cell_of_row _ _ 0 _ _ _ hS.row; simp only [List.getElem?_toArray, List.getElem?_cons_succ, List.getElem?_cons_zero] at hz; go_simp) HS0.out ?_
          try simp only [List.set_cons_zero, List.set_cons_succ]
          refine take_val 19 (.int .i64 (lst : Int)) rfl (by kernel_rfl) (by kernel_rfl) (by kernel_rfl) (fun _ _ _ _ h => h) (by rfl) rfl (fun wz hS => by go_simp) HS0.out ?_
          try simp only [List.set_cons_zero, List.set_cons_succ]
          refine take_val 20 (.pointer (some ⟨g, lst * 3, none⟩)) rfl (by kernel_rfl) (by kernel_rfl) (by kernel_rfl) (fun _ _ _ _ h => h) (by rfl) rfl (fun wz hS => by go_simp) HS0.out ?_
          try simp only [List.set_cons_zero, List.set_cons_succ]
          refine take_row 21 (cs := hC (L'[lst]'hll)) rfl (by kernel_rfl) (by kernel_rfl) (by kernel_rfl) (fun _ _ _ _ h => h) (by rfl) rfl rfl rfl (fun _ hS => hS.range lst hll) Tryd.underlying179 rfl HIT.out HS0.out ?_
          try simp only [List.set_cons_zero, List.set_cons_succ]
          refine one_ready 22 (by kernel_rfl) rfl (by rfl) (fun K hK => ?_)
          refine wp_call_run (f := 106) (args := #[.agg (hC (L'[k1]'hkl)).toArray, .agg (hC (L'[lst]'hll)).toArray]) (by kernel_rfl) (HCMP.out _ _ u5 (HOKL.out _ _) (HOKL.out _ _)) ?_
          rintro e u6 ⟨⟨r, rfl, hr⟩, hb6⟩
          have HRR := Lib.hid hr
          have HHS := Lib.hid (HS0.out.below hb6)
          have HBW2 := Lib.hid (Below.step HBD.out hb6)
          clear hr hb6 HS0 HBD HBW
          refine ⟨_, rfl, ?_⟩
          refine hK.out _ _ HHS.out ?_
          clear hK K
          try simp only [Act.put, List.setIfInBounds_toArray]
          try simp only [List.set_cons_zero, List.set_cons_succ]
          refine take_val 23 (.bool (decide (r < 0))) rfl (by kernel_rfl) (by kernel_rfl) (by kernel_rfl) (fun _ _ _ _ h => h) (by rfl) rfl (fun wz hS => by go_simp) HHS.out ?_
          try simp only [List.set_cons_zero, List.set_cons_succ]
          refine take_val 24 (.bool (decide (r < 0))) rfl (by kernel_rfl) (by kernel_rfl) (by kernel_rfl) (fun _ _ _ _ h => h) (by rfl) rfl (fun wz hS => by go_simp) HHS.out ?_
          try simp only [List.set_cons_zero, List.set_cons_succ]
          refine wpAnyH_done (by kernel_rfl) ?_ _
          refine NoPanic.normal ?_
          clear HHS
          by_cases hr0 : r < 0
          · have hd : decide (r < 0) = true := decide_eq_true hr0
            rw [hd]
            have HLS2 : Hid (Lst L' i (0 + 1) k1) := by
              have h := HRR.out.2.1 hr0
              have e := HKJ.out
              subst e
              exact HLS.out.go (by decide) hll hkl h
            clear hd hr0
            go_wp2_with fail
            go_roundw
            case rel => exact ⟨1, k1, rfl, rfl, by omega, by omega, by omega, HLS2, HBW2⟩
            case measure => simp [intOf]
          · have hd : decide (r < 0) = false := decide_eq_false hr0
            rw [hd]
            have HLS2 : Hid (Lst L' i (0 + 1) lst) := HLS.out.stay (fun hl hk => by
              have h := fun h => hr0 (HRR.out.2.2 h)
              have e := HKJ.out
              subst e
              exact Classical.not_not.1 h)
            clear hd hr0
            go_wp2_with fail
            go_roundw
            case rel => exact ⟨1, lst, rfl, rfl, by omega, by omega, by omega, HLS2, HBW2⟩
            case measure => simp [intOf]
        · have c1 : ¬ (k1 : Int) < (m : Int) := by omega
          have cd : decide ((k1 : Int) < (m : Int)) = false := decide_eq_false c1
          have HLS2 : Hid (Lst L' i (0 + 1) lst) := HLS.out.stay (fun hl hk => by have e := HKJ.out; have e2 := HLN.out; omega)
          go_wp2_with fail
          go_quiet (fail)
          go_wp2_with fail
          go_roundw
          case rel => exact ⟨1, lst, rfl, rfl, by omega, by omega, by omega, HLS2, Lib.hid (below_dn HBW.out _)⟩
          case measure => simp [intOf]
      by_cases jB : j = 1
      · obtain rfl := jB
        have hix : ∀ u : World, (Instr.index 243 (.agg #[.int .i64 (k1 : Int), .int .i64 (k2 : Int)]) (.int .i64 1)).run Tryd.prog u = .ok (.int .i64 (k2 : Int)) u := fun u => by kernel_rfl
        have HKJ : Hid (2 * i + 1 + 1 = k2) := by have h := HK2.out; show _ = _; omega
        by_cases hkm : k2 < m
        · have c1 : (k2 : Int) < (m : Int) := by omega
          have hkl : k2 < L'.length := by have := HLN.out; omega
          have hil : i < L'.length := by have := HLN.out; have := HKJ.out; omega
          have hll : lst < L'.length := HLS.out.lt hil
          have c2 : (k2 : Int) < (L'.length : Int) := by omega
          have c3 : (lst : Int) < (L'.length : Int) := by omega
          have c4 : (0 : Int) ≤ (k2 : Int) := Int.natCast_nonneg _
          have HPW := Lib.hid (HPS.out.below HBW.out)
          go_wp2_with fail
          refine wp_region_noPanic ?_
          refine wp_region_held_drew (S := fun v => HpS B0 hb (some ⟨g, 0, none⟩) cap L' v) (by kernel_rfl) (HPW.out.hs.below (Below.refl _ _).drew) (fun hS0 => ?_)
          have HS0 := Lib.hid hS0
          clear hS0
          have HBD := Lib.hid HBW.out.drew
          clear HPW
          generalize wr.drew = u5 at *
          refine take_val 0 (.int .i64 (k2 : Int)) rfl (by kernel_rfl) (by kernel_rfl) (by kernel_rfl) (fun _ _ _ _ h => h) (by rfl) rfl (fun wz hS => by go_simp) HS0.out ?_
          try simp only [List.set_cons_zero, List.set_cons_succ]
          refine take_val 1 (.int .i64 (m : Int)) rfl (by kernel_rfl) (by kernel_rfl) (by kernel_rfl) (fun _ _ _ _ h => h) (by rfl) rfl (fun wz hS => by go_simp) HS0.out ?_
          try simp only [List.set_cons_zero, List.set_cons_succ]
          refine take_val 2 (.bool true) rfl (by kernel_rfl) (by kernel_rfl) (by kernel_rfl) (fun _ _ _ _ h => h) (by rfl) rfl (fun wz hS => by go_simp) HS0.out ?_
          try simp only [List.set_cons_zero, List.set_cons_succ]
          refine take_val 3 (.bool true) rfl (by kernel_rfl) (by kernel_rfl) (by kernel_rfl) (fun _ _ _ _ h => h) (by rfl) rfl (fun wz hS => by go_simp) HS0.out ?_
          try simp only [List.set_cons_zero, List.set_cons_succ]
          refine take_val 4 (.pointer (some ⟨hb, 0, none⟩)) rfl (by kernel_rfl) (by kernel_rfl) (by kernel_rfl) (fun _ _ _ _ h => h) (by rfl) rfl (fun wz hS => by go_simp) HS0.out ?_
          try simp only [List.set_cons_zero, List.set_cons_succ]
          refine take_val 5 (.pointer (some ⟨hb, 0, none⟩)) rfl (by kernel_rfl) (by kernel_rfl) (by kernel_rfl) (fun _ _ _ _ h => h) (by rfl) rfl (fun wz hS => by go_simp) HS0.out ?_
          try simp only [List.set_cons_zero, List.set_cons_succ]
          refine take_val 6 (.pointer (some ⟨hb, 1, none⟩)) rfl (by kernel_rfl) (by kernel_rfl) (by kernel_rfl) (fun _ _ _ _ h => h) (by rfl) rfl (fun wz hS => by go_simp) HS0.out ?_
          try simp only [List.set_cons_zero, List.set_cons_succ]
          refine take_val 7 (.func (.func 106) #[] #[]) rfl (by kernel_rfl) (by kernel_rfl) (by kernel_rfl) (fun _ _ _ _ h => h) (by rfl) rfl (fun wz hS => by have hz := cell_of_row _ _ 1 _ _ _ hS.row; simp only [List.getElem?_toArray, List.getElem?_cons_succ, List.getElem?_cons_zero] at hz; go_simp) HS0.out ?_
          try simp only [List.set_cons_zero, List.set_cons_succ]
          refine take_val 8 (.pointer (some ⟨hb, 0, none⟩)) rfl (by kernel_rfl) (by kernel_rfl) (by kernel_rfl) (fun _ _ _ _ h => h) (by rfl) rfl (fun wz hS => by go_simp) HS0.out ?_
          try simp only [List.set_cons_zero, List.set_cons_succ]
          refine take_val 9 (.pointer (some ⟨hb, 0, none⟩)) rfl (by kernel_rfl) (by kernel_rfl) (by kernel_rfl) (fun _ _ _ _ h => h) (by rfl) rfl (fun wz hS => by go_simp) HS0.out ?_
          try simp only [List.set_cons_zero, List.set_cons_succ]
          refine take_val 10 (.pointer (some ⟨hb, 0, none⟩)) rfl (by kernel_rfl) (by kernel_rfl) (by kernel_rfl) (fun _ _ _ _ h => h) (by rfl) rfl (fun wz hS => by go_simp) HS0.out ?_
          try simp only [List.set_cons_zero, List.set_cons_succ]
          refine take_val 11 (.slice (some ⟨g, 0, none⟩) L'.length cap) rfl (by kernel_rfl) (by kernel_rfl) (by kernel_rfl) (fun _ _ _ _ h => h) (by rfl) rfl (fun wz hS => by have hz := cell_of_row _ _ 0 _ _ _ hS.row; simp only [List.getElem?_toArray, List.getElem?_cons_succ, List.getElem?_cons_zero] at hz; go_simp) HS0.out ?_
          try simp only [List.set_cons_zero, List.set_cons_succ]
          refine take_val 12 (.int .i64 (k2 : Int)) rfl (by kernel_rfl) (by kernel_rfl) (by kernel_rfl) (fun _ _ _ _ h => h) (by rfl) rfl (fun wz hS => by go_simp) HS0.out ?_
          try simp only [List.set_cons_zero, List.set_cons_succ]
          refine take_val 13 (.pointer (some ⟨g, k2 * 3, none⟩)) rfl (by kernel_rfl) (by kernel_rfl) (by kernel_rfl) (fun _ _ _ _ h => h) (by rfl) rfl (fun wz hS => by go_simp) HS0.out ?_
          try simp only [List.set_cons_zero, List.set_cons_succ]
          refine take_row 14 (cs := hC (L'[k2]'hkl)) rfl (by kernel_rfl) (by kernel_rfl) (by kernel_rfl) (fun _ _ _ _ h => h) (by rfl) rfl rfl rfl (fun _ hS => hS.range k2 hkl) Tryd.underlying179 rfl HIT.out HS0.out ?_
          try simp only [List.set_cons_zero, List.set_cons_succ]
          refine take_val 15 (.pointer (some ⟨hb, 0, none⟩)) rfl (by kernel_rfl) (by kernel_rfl) (by kernel_rfl) (fun _ _ _ _ h => h) (by rfl) rfl (fun wz hS => by go_simp) HS0.out ?_
          try simp only [List.set_cons_zero, List.set_cons_succ]
          refine take_val 16 (.pointer (some ⟨hb, 0, none⟩)) rfl (by kernel_rfl) (by kernel_rfl) (by kernel_rfl) (fun _ _ _ _ h => h) (by rfl) rfl (fun wz hS => by go_simp) HS0.out ?_
          try simp only [List.set_cons_zero, List.set_cons_succ]
          refine take_val 17 (.pointer (some ⟨hb, 0, none⟩)) rfl (by kernel_rfl) (by kernel_rfl) (by kernel_rfl) (fun _ _ _ _ h => h) (by rfl) rfl (fun wz hS => by go_simp) HS0.out ?_
          try simp only [List.set_cons_zero, List.set_cons_succ]
          refine take_val 18 (.slice (some ⟨g, 0, none⟩) L'.length cap) rfl (by kernel_rfl) (by kernel_rfl) (by kernel_rfl) (fun _ _ _ _ h => h) (by rfl) rfl (fun wz hS => by have hz := cell_of_row _ _ 0 _ _ _ hS.row; simp only [List.getElem?_toArray, List.getElem?_cons_succ, List.getElem?_cons_zero] at hz; go_simp) HS0.out ?_
          try simp only [List.set_cons_zero, List.set_cons_succ]
          refine take_val 19 (.int .i64 (lst : Int)) rfl (by kernel_rfl) (by kernel_rfl) (by kernel_rfl) (fun _ _ _ _ h => h) (by rfl) rfl (fun wz hS => by go_simp) HS0.out ?_
          try simp only [List.set_cons_zero, List.set_cons_succ]
          refine take_val 20 (.pointer (some ⟨g, lst * 3, none⟩)) rfl (by kernel_rfl) (by kernel_rfl) (by kernel_rfl) (fun _ _ _ _ h => h) (by rfl) rfl (fun wz hS => by go_simp) HS0.out ?_
          try simp only [List.set_cons_zero, List.set_cons_succ]
          refine take_row 21 (cs := hC (L'[lst]'hll)) rfl (by kernel_rfl) (by kernel_rfl) (by kernel_rfl) (fun _ _ _ _ h => h) (by rfl) rfl rfl rfl (fun _ hS => hS.range lst hll) Tryd.underlying179 rfl HIT.out HS0.out ?_
          try simp only [List.set_cons_zero, List.set_cons_succ]
          refine one_ready 22 (by kernel_rfl) rfl (by rfl) (fun K hK => ?_)
          refine wp_call_run (f := 106) (args := #[.agg (hC (L'[k2]'hkl)).toArray, .agg (hC (L'[lst]'hll)).toArray]) (by kernel_rfl) (HCMP.out _ _ u5 (HOKL.out _ _) (HOKL.out _ _)) ?_
          rintro e u6 ⟨⟨r, rfl, hr⟩, hb6⟩
          have HRR := Lib.hid hr
          have HHS := Lib.hid (HS0.out.below hb6)
          have HBW2 := Lib.hid (Below.step HBD.out hb6)
          clear hr hb6 HS0 HBD HBW
          refine ⟨_, rfl, ?_⟩
          refine hK.out _ _ HHS.out ?_
          clear hK K
          try simp only [Act.put, List.setIfInBounds_toArray]
          try simp only [List.set_cons_zero, List.set_cons_succ]
          refine take_val 23 (.bool (decide (r < 0))) rfl (by kernel_rfl) (by kernel_rfl) (by kernel_rfl) (fun _ _ _ _ h => h) (by rfl) rfl (fun wz hS => by go_simp) HHS.out ?_
          try simp only [List.set_cons_zero, List.set_cons_succ]
          refine take_val 24 (.bool (decide (r < 0))) rfl (by kernel_rfl) (by kernel_rfl) (by kernel_rfl) (fun _ _ _ _ h => h) (by rfl) rfl (fun wz hS => by go_simp) HHS.out ?_
          try simp only [List.set_cons_zero, List.set_cons_succ]
          refine wpAnyH_done (by kernel_rfl) ?_ _
          refine NoPanic.normal ?_
          clear HHS
          by_cases hr0 : r < 0
          · have hd : decide (r < 0) = true := decide_eq_true hr0
            rw [hd]
            have HLS2 : Hid (Lst L' i (1 + 1) k2) := by
              have h := HRR.out.2.1 hr0
              have e := HKJ.out
              subst e
              exact HLS.out.go (by decide) hll hkl h
            clear hd hr0
            go_wp2_with fail
            go_roundw
            case rel => exact ⟨2, k2, rfl, rfl, by omega, by omega, by omega, HLS2, HBW2⟩
            case measure => simp [intOf]
          · have hd : decide (r < 0) = false := decide_eq_false hr0
            rw [hd]
            have HLS2 : Hid (Lst L' i (1 + 1) lst) := HLS.out.stay (fun hl hk => by
              have h := fun h => hr0 (HRR.out.2.2 h)
              have e := HKJ.out
              subst e
              exact Classical.not_not.1 h)
            clear hd hr0
            go_wp2_with fail
            go_roundw
            case rel => exact ⟨2, lst, rfl, rfl, by omega, by omega, by omega, HLS2, HBW2⟩
            case measure => simp [intOf]
        · have c1 : ¬ (k2 : Int) < (m : Int) := by omega
          have cd : decide ((k2 : Int) < (m : Int)) = false := decide_eq_false c1
          have HLS2 : Hid (Lst L' i (1 + 1) lst) := HLS.out.stay (fun hl hk => by have e := HKJ.out; have e2 := HLN.out; omega)
          go_wp2_with fail
          go_quiet (fail)
          go_wp2_with fail
          go_roundw
          case rel => exact ⟨2, lst, rfl, rfl, by omega, by omega, by omega, HLS2, Lib.hid (below_dn HBW.out _)⟩
          case measure => simp [intOf]
      obtain rfl : j = 2 := by omega
      clear jA jB
      have HPW := Lib.hid (HPS.out.below HBW.out)
      by_cases hq : lst = i
      · subst hq
        have HHN : Hid (Hp leT L') := HLS.out.done HDN.out
        have z0 := cell_of_row _ _ 0 _ _ _ HPW.out.oo
        have z1 := cell_of_row _ _ 1 _ _ _ HPW.out.oo
        have z2 := cell_of_row _ _ 2 _ _ _ HPW.out.oo
        simp only [hC, List.getElem?_toArray, List.getElem?_cons_succ, List.getElem?_cons_zero] at z0 z1 z2
        have HTH : Hid (World.there wr w.heap.size 0 (#[.int .i64 (x0.1 : Int), .int .i64 (x0.2.1 : Int), .slice x0.2.2.1 x0.2.2.2.2.length x0.2.2.2.1] : Array Value).size) := there_row (cs := #[.int .i64 0, .int .i64 0, .slice none 0 0]) HPW.out.rr
        have HON : Hid ((#[.int .i64 (x0.1 : Int), .int .i64 (x0.2.1 : Int), .slice x0.2.2.1 x0.2.2.2.2.length x0.2.2.2.1] : Array Value).all (·.oneCell') = true) := all_oneCell_toArray (hC_one x0)
        have HIN : Hid ((Tryd.prog.info? 179).map (·.size) = some (#[.int .i64 (x0.1 : Int), .int .i64 (x0.2.1 : Int), .slice x0.2.2.1 x0.2.2.2.2.length x0.2.2.2.1] : Array Value).size) := HIT.out
        go_wp2_with (with_reducible refine wpList_store_mid rfl 179 (.tmp 2) (.tmp 83) rfl w.heap.size 0 #[.int .i64 (x0.1 : Int), .int .i64 (x0.2.1 : Int), .slice x0.2.2.1 x0.2.2.2.2.length x0.2.2.2.1] rfl rfl HTH.out HIN.out HON.out ?_)
        refine bodyPost_ret (results_row (p := 2) (ty := 179) rfl _ _ w.heap.size 179 #[.int .i64 (x0.1 : Int), .int .i64 (x0.2.1 : Int), .slice x0.2.2.1 x0.2.2.2.2.length x0.2.2.2.1] (0, 0) _ rfl (setCells_full HPW.out.rr #[.int .i64 (x0.1 : Int), .int .i64 (x0.2.1 : Int), .slice x0.2.2.1 x0.2.2.2.2.length x0.2.2.2.1] rfl) Tryd.underlying179 rfl HIN.out) rfl ?_
        refine ⟨x0, rfl, below_setCells HB0.out _ 0 HPW.out.bl, HPW.out.kp.trans (Kp.set HPW.out.rr (.inl rfl) 0 _), _, _, L', ⟨(heap_setCells_other _ _ (by have := HLT.out; omega) _ _ _).trans HPW.out.hs.row, own_only HPW.out.hs.own (heap_setCells_other _ _ (by have := HPW.out.gl; omega) _ _ _), HPW.out.hs.base⟩, HP2.out.trans (HPE.out.symm.cons x0), HHN.out, HMIN.out⟩
      · have hqb : ((lst : Int) == (i : Int)) = false := by rw [beq_eq_false_iff_ne]; omega
        obtain ⟨hll, hii, hgt, hdn⟩ := HLS.out.swap hq HDN.out
        have HDX := Lib.hid hdn
        have c2 : (i : Int) < (L'.length : Int) := by omega
        have c3 : (lst : Int) < (L'.length : Int) := by omega
        have hmL : L'.length = m := HLN.out
        have hlm : lst < m := by omega
        clear hdn hmL
        go_wp2_with fail
        refine wp_region_noPanic ?_
        refine wp_region_held_drew (S := fun v => v.heap[hb]? = some (.cells (hpV (some ⟨g, 0, none⟩) L'.length cap) 184 (0, 0))) (by kernel_rfl) HPW.out.hs.row (fun hS0 => ?_)
        have HS0 := Lib.hid hS0
        clear hS0
        have HP5 := Lib.hid (HPW.out.below (Below.refl _ _).drew)
        clear HPW
        generalize wr.drew = u6 at *
        refine take_val 0 (.pointer (some ⟨hb, 0, none⟩)) rfl (by kernel_rfl) (by kernel_rfl) (by kernel_rfl) (fun _ _ _ _ h => h) (by rfl) rfl (fun wz hS => by go_simp) HS0.out ?_
        try simp only [List.set_cons_zero, List.set_cons_succ]
        refine take_val 1 (.pointer (some ⟨hb, 0, none⟩)) rfl (by kernel_rfl) (by kernel_rfl) (by kernel_rfl) (fun _ _ _ _ h => h) (by rfl) rfl (fun wz hS => by go_simp) HS0.out ?_
        try simp only [List.set_cons_zero, List.set_cons_succ]
        refine take_val 2 (.pointer (some ⟨hb, 0, none⟩)) rfl (by kernel_rfl) (by kernel_rfl) (by kernel_rfl) (fun _ _ _ _ h => h) (by rfl) rfl (fun wz hS => by go_simp) HS0.out ?_
        try simp only [List.set_cons_zero, List.set_cons_succ]
        refine take_val 3 (.slice (some ⟨g, 0, none⟩) L'.length cap) rfl (by kernel_rfl) (by kernel_rfl) (by kernel_rfl) (fun _ _ _ _ h => h) (by rfl) rfl (fun wz hS => by have hz := cell_of_row _ _ 0 _ _ _ hS; simp only [List.getElem?_toArray, List.getElem?_cons_succ, List.getElem?_cons_zero] at hz; go_simp) HS0.out ?_
        try simp only [List.set_cons_zero, List.set_cons_succ]
        refine take_val 4 (.int .i64 (lst : Int)) rfl (by kernel_rfl) (by kernel_rfl) (by kernel_rfl) (fun _ _ _ _ h => h) (by rfl) rfl (fun wz hS => by go_simp) HS0.out ?_
        try simp only [List.set_cons_zero, List.set_cons_succ]
        refine take_val 5 (.pointer (some ⟨hb, 0, none⟩)) rfl (by kernel_rfl) (by kernel_rfl) (by kernel_rfl) (fun _ _ _ _ h => h) (by rfl) rfl (fun wz hS => by go_simp) HS0.out ?_
        try simp only [List.set_cons_zero, List.set_cons_succ]
        refine take_val 6 (.pointer (some ⟨hb, 0, none⟩)) rfl (by kernel_rfl) (by kernel_rfl) (by kernel_rfl) (fun _ _ _ _ h => h) (by rfl) rfl (fun wz hS => by go_simp) HS0.out ?_
        try simp only [List.set_cons_zero, List.set_cons_succ]
        refine take_val 7 (.pointer (some ⟨hb, 0, none⟩)) rfl (by kernel_rfl) (by kernel_rfl) (by kernel_rfl) (fun _ _ _ _ h => h) (by rfl) rfl (fun wz hS => by go_simp) HS0.out ?_
        try simp only [List.set_cons_zero, List.set_cons_succ]
        refine take_val 8 (.slice (some ⟨g, 0, none⟩) L'.length cap) rfl (by kernel_rfl) (by kernel_rfl) (by kernel_rfl) (fun _ _ _ _ h => h) (by rfl) rfl (fun wz hS => by have hz := cell_of_row _ _ 0 _ _ _ hS; simp only [List.getElem?_toArray, List.getElem?_cons_succ, List.getElem?_cons_zero] at hz; go_simp) HS0.out ?_
        try simp only [List.set_cons_zero, List.set_cons_succ]
        refine take_val 9 (.int .i64 (i : Int)) rfl (by kernel_rfl) (by kernel_rfl) (by kernel_rfl) (fun _ _ _ _ h => h) (by rfl) rfl (fun wz hS => by go_simp) HS0.out ?_
        try simp only [List.set_cons_zero, List.set_cons_succ]
        refine take_val 10 (.pointer (some ⟨hb, 0, none⟩)) rfl (by kernel_rfl) (by kernel_rfl) (by kernel_rfl) (fun _ _ _ _ h => h) (by rfl) rfl (fun wz hS => by go_simp) HS0.out ?_
        try simp only [List.set_cons_zero, List.set_cons_succ]
        refine take_val 11 (.pointer (some ⟨hb, 0, none⟩)) rfl (by kernel_rfl) (by kernel_rfl) (by kernel_rfl) (fun _ _ _ _ h => h) (by rfl) rfl (fun wz hS => by go_simp) HS0.out ?_
        try simp only [List.set_cons_zero, List.set_cons_succ]
        refine take_val 12 (.pointer (some ⟨hb, 0, none⟩)) rfl (by kernel_rfl) (by kernel_rfl) (by kernel_rfl) (fun _ _ _ _ h => h) (by rfl) rfl (fun wz hS => by go_simp) HS0.out ?_
        try simp only [List.set_cons_zero, List.set_cons_succ]
        refine take_val 13 (.slice (some ⟨g, 0, none⟩) L'.length cap) rfl (by kernel_rfl) (by kernel_rfl) (by kernel_rfl) (fun _ _ _ _ h => h) (by rfl) rfl (fun wz hS => by have hz := cell_of_row _ _ 0 _ _ _ hS; simp only [List.getElem?_toArray, List.getElem?_cons_succ, List.getElem?_cons_zero] at hz; go_simp) HS0.out ?_
        try simp only [List.set_cons_zero, List.set_cons_succ]
        refine take_val 14 (.int .i64 (i : Int)) rfl (by kernel_rfl) (by kernel_rfl) (by kernel_rfl) (fun _ _ _ _ h => h) (by rfl) rfl (fun wz hS => by go_simp) HS0.out ?_
        try simp only [List.set_cons_zero, List.set_cons_succ]
        refine take_val 15 (.pointer (some ⟨g, i * 3, none⟩)) rfl (by kernel_rfl) (by kernel_rfl) (by kernel_rfl) (fun _ _ _ _ h => h) (by rfl) rfl (fun wz hS => by go_simp) HS0.out ?_
        try simp only [List.set_cons_zero, List.set_cons_succ]
        refine take_val 17 (.pointer (some ⟨hb, 0, none⟩)) rfl (by kernel_rfl) (by kernel_rfl) (by kernel_rfl) (fun _ _ _ _ h => h) (by rfl) rfl (fun wz hS => by go_simp) HS0.out ?_
        try simp only [List.set_cons_zero, List.set_cons_succ]
        refine take_val 18 (.pointer (some ⟨hb, 0, none⟩)) rfl (by kernel_rfl) (by kernel_rfl) (by kernel_rfl) (fun _ _ _ _ h => h) (by rfl) rfl (fun wz hS => by go_simp) HS0.out ?_
        try simp only [List.set_cons_zero, List.set_cons_succ]
        refine take_val 19 (.pointer (some ⟨hb, 0, none⟩)) rfl (by kernel_rfl) (by kernel_rfl) (by kernel_rfl) (fun _ _ _ _ h => h) (by rfl) rfl (fun wz hS => by go_simp) HS0.out ?_
        try simp only [List.set_cons_zero, List.set_cons_succ]
        refine take_val 20 (.slice (some ⟨g, 0, none⟩) L'.length cap) rfl (by kernel_rfl) (by kernel_rfl) (by kernel_rfl) (fun _ _ _ _ h => h) (by rfl) rfl (fun wz hS => by have hz := cell_of_row _ _ 0 _ _ _ hS; simp only [List.getElem?_toArray, List.getElem?_cons_succ, List.getElem?_cons_zero] at hz; go_simp) HS0.out ?_
        try simp only [List.set_cons_zero, List.set_cons_succ]
        refine take_val 21 (.int .i64 (lst : Int)) rfl (by kernel_rfl) (by kernel_rfl) (by kernel_rfl) (fun _ _ _ _ h => h) (by rfl) rfl (fun wz hS => by go_simp) HS0.out ?_
        try simp only [List.set_cons_zero, List.set_cons_succ]
        refine take_val 22 (.pointer (some ⟨g, lst * 3, none⟩)) rfl (by kernel_rfl) (by kernel_rfl) (by kernel_rfl) (fun _ _ _ _ h => h) (by rfl) rfl (fun wz hS => by go_simp) HS0.out ?_
        try simp only [List.set_cons_zero, List.set_cons_succ]
        refine two_ready 16 23 (by kernel_rfl) rfl rfl (by rfl) (by rfl) (fun K hK => ?_) (fun K hK => ?_)
        · refine wp_load_mid 179 _ rfl g (i * 3) rfl (hC (L'[i]'hii)) _ (HP5.out.hs.range i hii) Tryd.underlying179 rfl HIT.out ?_
          refine hK.out _ _ HS0.out ?_
          clear hK K
          try simp only [Act.put, List.setIfInBounds_toArray]
          try simp only [List.set_cons_zero, List.set_cons_succ]
          refine one_ready 23 (by kernel_rfl) rfl (by rfl) (fun K hK => ?_)
          refine wp_load_mid 179 _ rfl g (lst * 3) rfl (hC (L'[lst]'hll)) _ (HP5.out.hs.range lst hll) Tryd.underlying179 rfl HIT.out ?_
          refine hK.out _ _ HS0.out ?_
          clear hK K
          try simp only [Act.put, List.setIfInBounds_toArray]
          try simp only [List.set_cons_zero, List.set_cons_succ]
          refine take_val 24 (.pointer (some ⟨g, lst * 3, none⟩)) rfl (by kernel_rfl) (by kernel_rfl) (by kernel_rfl) (fun _ _ _ _ h => h) (by rfl) rfl (fun wz hS => by go_simp) HS0.out ?_
          try simp only [List.set_cons_zero, List.set_cons_succ]
          refine one_ready 25 (by kernel_rfl) rfl (by rfl) (fun K hK => ?_)
          refine wp_store_mid 179 _ _ rfl g (lst * 3) (hC (L'[i]'hii)).toArray rfl rfl (HP5.out.hs.there (by omega) lst hll) HIT.out (all_oneCell_toArray (hC_one _)) ?_
          have HP7 := Lib.hid (HP5.out.put (by omega) lst hll (L'[i]'hii))
          have hs7 := HP7.out.hs.row
          rw [List.length_set] at hs7
          have HS7 := Lib.hid hs7
          clear hs7
          refine hK.out _ _ HS7.out ?_
          clear hK K
          try simp only [Act.put, List.setIfInBounds_toArray]
          try simp only [List.set_cons_zero, List.set_cons_succ]
          refine take_val 26 (.pointer (some ⟨g, i * 3, none⟩)) rfl (by kernel_rfl) (by kernel_rfl) (by kernel_rfl) (fun _ _ _ _ h => h) (by rfl) rfl (fun wz hS => by go_simp) HS7.out ?_
          try simp only [List.set_cons_zero, List.set_cons_succ]
          refine one_ready 27 (by kernel_rfl) rfl (by rfl) (fun K hK => ?_)
          refine wp_store_mid 179 _ _ rfl g (i * 3) (hC (L'[lst]'hll)).toArray rfl rfl (HP7.out.hs.there (by rw [List.length_set]; omega) i (by rw [List.length_set]; omega)) HIT.out (all_oneCell_toArray (hC_one _)) ?_
          have HP8 : Hid (PoS B0 hb g cap w.heap.size x0 (swp L' lst i hll hii) w _) := HP7.out.put (by rw [List.length_set]; omega) i (by rw [List.length_set]; omega) (L'[lst]'hll)
          have hs8 := HP8.out.hs.row
          rw [swp_len] at hs8
          refine hK.out _ _ hs8 ?_
          clear hK K
          try simp only [Act.put, List.setIfInBounds_toArray]
          try simp only [List.set_cons_zero, List.set_cons_succ]
          clear hs8 HS7 HP7 HS0 HP5
          refine wpAnyH_done (by kernel_rfl) ?_ _
          refine NoPanic.normal ?_
          have HPN : Hid ((swp L' lst i hll hii).Perm L3) := (swp_perm L' lst i _ _).trans HPE.out
          have HLN2 : Hid ((swp L' lst i hll hii).length = m) := (swp_len L' lst i _ _).trans HLN.out
          go_wp2_with fail
          go_roundw
          case rel => exact ⟨lst, _, rfl, by omega, HLN2, HPN, HDX, HP8⟩
          case measure => simp [intOf]; omega
        · refine wp_load_mid 179 _ rfl g (lst * 3) rfl (hC (L'[lst]'hll)) _ (HP5.out.hs.range lst hll) Tryd.underlying179 rfl HIT.out ?_
          refine hK.out _ _ HS0.out ?_
          clear hK K
          try simp only [Act.put, List.setIfInBounds_toArray]
          try simp only [List.set_cons_zero, List.set_cons_succ]
          refine one_ready 16 (by kernel_rfl) rfl (by rfl) (fun K hK => ?_)
          refine wp_load_mid 179 _ rfl g (i * 3) rfl (hC (L'[i]'hii)) _ (HP5.out.hs.range i hii) Tryd.underlying179 rfl HIT.out ?_
          refine hK.out _ _ HS0.out ?_
          clear hK K
          try simp only [Act.put, List.setIfInBounds_toArray]
          try simp only [List.set_cons_zero, List.set_cons_succ]
          refine take_val 24 (.pointer (some ⟨g, lst * 3, none⟩)) rfl (by kernel_rfl) (by kernel_rfl) (by kernel_rfl) (fun _ _ _ _ h => h) (by rfl) rfl (fun wz hS => by go_simp) HS0.out ?_
          try simp only [List.set_cons_zero, List.set_cons_succ]
          refine one_ready 25 (by kernel_rfl) rfl (by rfl) (fun K hK => ?_)
          refine wp_store_mid 179 _ _ rfl g (lst * 3) (hC (L'[i]'hii)).toArray rfl rfl (HP5.out.hs.there (by omega) lst hll) HIT.out (all_oneCell_toArray (hC_one _)) ?_
          have HP7 := Lib.hid (HP5.out.put (by omega) lst hll (L'[i]'hii))
          have hs7 := HP7.out.hs.row
          rw [List.length_set] at hs7
          have HS7 := Lib.hid hs7
          clear hs7
          refine hK.out _ _ HS7.out ?_
          clear hK K
          try simp only [Act.put, List.setIfInBounds_toArray]
          try simp only [List.set_cons_zero, List.set_cons_succ]
          refine take_val 26 (.pointer (some ⟨g, i * 3, none⟩)) rfl (by kernel_rfl) (by kernel_rfl) (by kernel_rfl) (fun _ _ _ _ h => h) (by rfl) rfl (fun wz hS => by go_simp) HS7.out ?_
          try simp only [List.set_cons_zero, List.set_cons_succ]
          refine one_ready 27 (by kernel_rfl) rfl (by rfl) (fun K hK => ?_)
          refine wp_store_mid 179 _ _ rfl g (i * 3) (hC (L'[lst]'hll)).toArray rfl rfl (HP7.out.hs.there (by rw [List.length_set]; omega) i (by rw [List.length_set]; omega)) HIT.out (all_oneCell_toArray (hC_one _)) ?_
          have HP8 : Hid (PoS B0 hb g cap w.heap.size x0 (swp L' lst i hll hii) w _) := HP7.out.put (by rw [List.length_set]; omega) i (by rw [List.length_set]; omega) (L'[lst]'hll)
          have hs8 := HP8.out.hs.row
          rw [swp_len] at hs8
          refine hK.out _ _ hs8 ?_
          clear hK K
          try simp only [Act.put, List.setIfInBounds_toArray]
          try simp only [List.set_cons_zero, List.set_cons_succ]
          clear hs8 HS7 HP7 HS0 HP5
          refine wpAnyH_done (by kernel_rfl) ?_ _
          refine NoPanic.normal ?_
          have HPN : Hid ((swp L' lst i hll hii).Perm L3) := (swp_perm L' lst i _ _).trans HPE.out
          have HLN2 : Hid ((swp L' lst i hll hii).length = m) := (swp_len L' lst i _ _).trans HLN.out
          go_wp2_with fail
          go_roundw
          case rel => exact ⟨lst, _, rfl, by omega, HLN2, HPN, HDX, HP8⟩
          case measure => simp [intOf]; omega
end Go.Proofs.YtbfhhnpoogmlnaaDoor
