/- The walk of line.Hears. -/
import Derived.Test.YtinjnclpiiohcaaLineSends
import Derived.Test.YtinjnclpiiohcaaDet3
import Derived.Test.YtinjnclpiiohcaaGrown
import Derived.Test.YtinjnclpiiohcaaOwnSet
import Derived.Test.YtinjnclpiiohcaaResults
namespace Go.Proofs.Ytinjnclpiiohcaa
open Go.RowKit Plain
set_option linter.unusedVariables false
set_option linter.unusedSimpArgs false
theorem heap_twoK (w : World) (o1 o2 : Obj) : ((w.alloc o1).alloc o2).heap[w.heap.size]? = some o1 ∧ ((w.alloc o1).alloc o2).heap[w.heap.size + 1]? = some o2 := by
  constructor
  · exact (Below.heap_alloc (w.alloc o1) o2 w.heap.size (by simp)).trans (heap_alloc_new w o1)
  · have := heap_alloc_new (w.alloc o1) o2
    simpa using this
/-- a whole row of the call's own stored over -/
theorem st_row {P : Program} {Q : Exit → Act → World → Prop} {a : Act} {o : Oper} {x y : Operand} {w0 u : World} {B b n : Nat} {ty : TypeId} {full : Array Value} (ho : o.op = .store ty x y) (hx : a.eval x = .pointer (some ⟨b, 0, none⟩)) (hy : a.eval y = .agg full)
    (hS : Below B w0 u) (hZ : RowZ ty B b n u) (hf : full.size = n) (hi : (P.info? ty).map (·.size) = some full.size) (h1 : full.all (·.oneCell') = true) (hdst : o.dst = none) :
    o.wp P a u (fun a' w' => a'.defers = a.defers ∧ Below B w0 w' ∧ w'.heap[b]? = some (.cells full ty (0, 0)) ∧ ∀ k, k ≠ b → w'.heap[k]? = u.heap[k]?) Q := by
  obtain ⟨h3, cs, h4, h5⟩ := hZ
  have hth := there_row h4
  rw [h5, ← hf] at hth
  refine wp_store_mid ty x y ho b 0 full hx hy hth hi h1 ?_
  have h6 := setCells_full h4 full (by rw [hf, h5])
  exact ⟨by rw [hdst]; rfl, below_setCells h3 _ _ hS, h6, fun k hk => heap_setCells_other _ _ hk _ _ _⟩
theorem own_keep {w w' : World} {base : Nat} {e : TypeId} {k : Nat} {v : Value} {n : Nat} {xs : List Value} (h : w.ownsRow base e k v n xs) (hb : ∀ g cs, w.heap[g]? = some (.cells cs e (0, 0)) → base ≤ g → w'.heap[g]? = w.heap[g]?) : w'.ownsRow base e k v n xs := by
  refine ⟨h.1, ?_⟩
  rcases h.2 with hv | ⟨g, cap, cur, hv, hB, hg, h3⟩
  · exact .inl hv
  · exact .inr ⟨g, cap, cur, hv, hB, (hb g cur hg hB).trans hg, h3⟩
theorem type_ne {w : World} {g b : Nat} {cs cs' : Array Value} {t t' : TypeId} (h : w.heap[g]? = some (.cells cs t (0, 0))) (h' : w.heap[b]? = some (.cells cs' t' (0, 0))) (ht : t ≠ t') : g ≠ b := by
  intro e
  rw [e, h'] at h
  injection h with h
  injection h with _ h
  exact ht h.symm
theorem rowz_ne {w : World} {g b n B0 : Nat} {cs : Array Value} {t t' : TypeId} (h : w.heap[g]? = some (.cells cs t (0, 0))) (h' : RowZ t' B0 b n w) (ht : t ≠ t') : g ≠ b := by
  obtain ⟨_, cs', h2, _⟩ := h'
  exact type_ne h h2 ht
/-- what a sender of the call's own is made of -/
def HSt (B0 ob : Nat) (a1 : Option Addr) (c1 : Nat) (a2 : Option Addr) (c2 : Nat) (T : List ByteArray) (had : List Bool) (bb : Nat) (w : World) : Prop :=
  w.ownsRow B0 9 1 (.slice a1 T.length c1) T.length (T.flatMap stC) ∧ w.ownsRow B0 4 1 (.slice a2 had.length c2) had.length (had.flatMap boC) ∧
  w.heap[ob]? = some (.cells #[.slice a1 T.length c1, .slice a2 had.length c2, .int .i64 (bb : Int)] 25 (0, 0)) ∧ B0 ≤ ob
theorem HSt.mark {B0 ob c1 c2 bb : Nat} {a1 a2 : Option Addr} {g : Nat} {T : List ByteArray} {had : List Bool} {w : World} (h : HSt B0 ob a1 c1 a2 c2 T had bb w) (ha : a2 = some ⟨g, 0, none⟩) (i : Nat) (hi : i < had.length) : HSt B0 ob a1 c1 a2 c2 T (had.set i true) bb (w.setCell ⟨g, i, none⟩ (.bool true)) := by
  subst ha
  obtain ⟨h1, h2, h3, h4⟩ := h
  obtain ⟨_, _, _, _, cur, hg, _⟩ := own_block h2
  have hne : ∀ k, k ≠ g → (w.setCell ⟨g, i, none⟩ (.bool true)).heap[k]? = w.heap[k]? := fun k hk => Below.heap_setCell w ⟨g, i, none⟩ _ k hk
  refine ⟨own_keep h1 fun k cs hk _ => hne k (type_ne hk hg (by decide)), ?_, ?_, h4⟩
  · have := own_put (c := boC) boC_length h2 i hi true
    rw [Nat.mul_one] at this
    exact this
  · rw [hne ob (type_ne h3 hg (by decide)), List.length_set]
    exact h3
theorem HSt.base {B0 ob c1 c2 bb : Nat} {a1 a2 : Option Addr} {T : List ByteArray} {had : List Bool} {w : World} (h : HSt B0 ob a1 c1 a2 c2 T had bb w) (b' : Nat) : HSt B0 ob a1 c1 a2 c2 T had b' (w.setCell ⟨ob, 2, none⟩ (.int .i64 (b' : Int))) := by
  obtain ⟨h1, h2, h3, h4⟩ := h
  have hne : ∀ k, k ≠ ob → (w.setCell ⟨ob, 2, none⟩ (.int .i64 (b' : Int))).heap[k]? = w.heap[k]? := fun k hk => Below.heap_setCell w ⟨ob, 2, none⟩ _ k hk
  refine ⟨own_keep h1 fun k cs hk _ => hne k (type_ne hk h3 (by decide)), own_keep h2 fun k cs hk _ => hne k (type_ne hk h3 (by decide)), ?_, h4⟩
  rw [heap_setCell_same w ob 2 _ _ _ h3]
  rfl
theorem HSt.bools {B0 ob c1 c2 bb : Nat} {a1 a2 : Option Addr} {T : List ByteArray} {had : List Bool} {w : World} (h : HSt B0 ob a1 c1 a2 c2 T had bb w) (i : Nat) (hi : i < had.length) (y : Bool) (hy : had[i] = y) : ∃ g, a2 = some ⟨g, 0, none⟩ ∧ B0 ≤ g ∧ w.cell? ⟨g, i, none⟩ = some (.bool y) ∧ w.frozen? ⟨g, i, none⟩ = false := by
  rcases h.2.1.2 with ⟨_, h0⟩ | ⟨g, cap, cur, hv, hB, hg, hn, hm, hs, ht⟩
  · omega
  · injection hv with hv _ _
    refine ⟨g, hv, hB, ?_, frozen_of_row _ _ _ _ _ hg⟩
    have hf := flat_get (c := boC) boC_length had i 0 hi (by decide)
    rw [← ht] at hf
    simp only [Nat.mul_one, Nat.add_zero] at hf
    rw [List.getElem?_take, if_pos hi, Array.getElem?_toList] at hf
    rw [cell_of_row _ _ _ _ _ _ hg, hf, hy]
    rfl
theorem sender_one (a1 : Option Addr) (n1 c1 : Nat) (a2 : Option Addr) (n2 c2 : Nat) (b : Int) : ((#[.slice a1 n1 c1, .slice a2 n2 c2, .int .i64 b] : Array Value).all (·.oneCell')) = true := by simp [Value.oneCell']
theorem sat_own1 {α : Type} {c : α → List Value} {w : World} {base k : Nat} {a : Option Addr} {cc : Nat} {l : List α} {T : TypeId} (hc : ∀ y, (c y).length = k) (h : w.ownsRow base T k (.slice a l.length cc) l.length (l.flatMap c)) : SAt k c w a l := by
  obtain ⟨a', c', e1, _, _, h⟩ := SAt.own h hc
  injection e1 with e1 _ _
  subst e1
  exact h
def HrEnd (w0 : World) (T : List ByteArray) (had : List Bool) (b : Int) (p : PkT) (e : Ending) (w : World) : Prop := Below w0.heap.size w0 w ∧ ((¬ SOk T had b ∧ ∃ c : Nat, c ≠ 0 ∧ e = .returned (.tuple #[.agg #[.slice none 0 0, .slice none 0 0, .int .i64 0], .int .i64 (c : Int)])) ∨
  (SOk T had b ∧ ∃ (a1 : Option Addr) (c1 : Nat) (a2 : Option Addr) (c2 b' : Nat), e = .returned (.tuple #[.agg #[.slice a1 T.length c1, .slice a2 (hear had p).length c2, .int .i64 (b' : Int)], .int .i64 0]) ∧
    SAt 1 stC w a1 T ∧ SAt 1 boC w a2 (hear had p) ∧ NB w0.heap.size a1 ∧ NB w0.heap.size a2 ∧ Adv (hear had p) b.toNat b'))
set_option maxRecDepth 100000 in
set_option maxHeartbeats 8000000 in
theorem hears_any (ta ha : Option Addr) (tc hc : Nat) (T : List ByteArray) (had : List Bool) (b : Int) (p : PkT) (w : World) (ht : SAt 1 stC w ta T) (hh : SAt 1 boC w ha had) (nt : T.length ≤ 9223372036854775807) (nh : had.length ≤ 9223372036854775807) :
    Calls Try.prog 14 #[.agg #[.slice ta T.length tc, .slice ha had.length hc, .int .i64 b], .agg (pkC p).toArray] w (HrEnd w T had b p) := by
  obtain ⟨k, q, s⟩ := p
  have HI : Hid ((Try.prog.info? 25).map (·.size) = some 3) := by show _ = _; kernel_rfl
  have HT := Lib.hid ht
  have HH := Lib.hid hh
  have HCK := Lib.hid fun u h1 h2 => csender_any ta ha tc hc T had b u h1 h2 nt nh
  have HCS := Lib.hid fun u h1 h2 => cloneS_any ta tc T u h1 h2
  have HCB := Lib.hid fun u h1 h2 => cloneB_any ha hc had u h1 h2
  have H3 := heap_twoK w (.cells #[.slice ta T.length tc, .slice ha had.length hc, .int .i64 b] 25) (.cells #[.int .i64 k, .int .i64 q, .string s] 30)
  have HB := Lib.hid ((((Below.refl w.heap.size w).alloc (Nat.le_refl _) (.cells #[.slice ta T.length tc, .slice ha had.length hc, .int .i64 b] 25)).alloc (by simp) (.cells #[.int .i64 k, .int .i64 q, .string s] 30)).alloc (by simp; omega) (.cells #[.slice none 0 0, .slice none 0 0, .int .i64 0] 25))
  have HR0 : Hid ((((w.alloc (.cells #[.slice ta T.length tc, .slice ha had.length hc, .int .i64 b] 25)).alloc (.cells #[.int .i64 k, .int .i64 q, .string s] 30)).alloc (.cells #[.slice none 0 0, .slice none 0 0, .int .i64 0] 25)).heap[w.heap.size]? = some (.cells #[.slice ta T.length tc, .slice ha had.length hc, .int .i64 b] 25 (0, 0))) := by show _ = _; rw [Below.heap_alloc _ _ _ (by simp; omega)]; exact H3.1
  have HR1 : Hid ((((w.alloc (.cells #[.slice ta T.length tc, .slice ha had.length hc, .int .i64 b] 25)).alloc (.cells #[.int .i64 k, .int .i64 q, .string s] 30)).alloc (.cells #[.slice none 0 0, .slice none 0 0, .int .i64 0] 25)).heap[w.heap.size + 1]? = some (.cells #[.int .i64 k, .int .i64 q, .string s] 30 (0, 0))) := by show _ = _; rw [Below.heap_alloc _ _ _ (by simp)]; exact H3.2
  have HR2 : Hid ((((w.alloc (.cells #[.slice ta T.length tc, .slice ha had.length hc, .int .i64 b] 25)).alloc (.cells #[.int .i64 k, .int .i64 q, .string s] 30)).alloc (.cells #[.slice none 0 0, .slice none 0 0, .int .i64 0] 25)).heap[w.heap.size + 1 + 1]? = some (.cells #[.slice none 0 0, .slice none 0 0, .int .i64 0] 25 (0, 0))) := by
    have := heap_alloc_new ((w.alloc (.cells #[.slice ta T.length tc, .slice ha had.length hc, .int .i64 b] 25)).alloc (.cells #[.int .i64 k, .int .i64 q, .string s] 30)) (.cells #[.slice none 0 0, .slice none 0 0, .int .i64 0] 25)
    show _ = _
    simpa using this
  have HSZ3 : Hid ((((w.alloc (.cells #[.slice ta T.length tc, .slice ha had.length hc, .int .i64 b] 25)).alloc (.cells #[.int .i64 k, .int .i64 q, .string s] 30)).alloc (.cells #[.slice none 0 0, .slice none 0 0, .int .i64 0] 25)).heap.size = w.heap.size + 3) := by show _ = _; simp
  clear ht hh H3
  simp only [pkC]
  go_enter Try.func14, Try.ntmps14
  go_wp2_with fail
  refine (HCK.out _ (HT.out.below HB.out) (HH.out.below HB.out)).mono ?_
  rintro e w1 ⟨c, rfl, hc, hb1⟩
  have HB1 := Lib.hid (Below.next HB.out hb1 (by simp <;> omega))
  have HQ0 := Lib.hid ((hb1.block _ (lt_of_block HR0.out)).trans HR0.out)
  have HQ1 := Lib.hid ((hb1.block _ (lt_of_block HR1.out)).trans HR1.out)
  have HQ2 := Lib.hid ((hb1.block _ (lt_of_block HR2.out)).trans HR2.out)
  have HSZ1 : Hid (w.heap.size + 3 ≤ w1.heap.size) := by have := hb1.size; rw [HSZ3.out] at this; exact this
  clear hb1 HR0 HR1 HR2 HB HSZ3
  by_cases hc0 : c = 0
  · have hok := hc.1 hc0
    subst hc0
    have HOK := Lib.hid hok
    obtain ⟨B, rfl⟩ : ∃ B : Nat, b = (B : Int) := ⟨b.toNat, by have := hok.2.2.1; omega⟩
    have hT := hok.1
    have hBn : B ≤ T.length := by have := hok.2.2.2.1; omega
    have HHL : Hid (had.length = T.length) := hok.2.1
    have hhad : had.length ≤ 2000 := by rw [hok.2.1]; exact hT
    clear hc hok
    have r0 := cell_of_row _ _ 0 _ _ _ HQ0.out
    have r1 := cell_of_row _ _ 1 _ _ _ HQ0.out
    have r2 := cell_of_row _ _ 2 _ _ _ HQ0.out
    simp only [List.getElem?_toArray, List.getElem?_cons_succ, List.getElem?_cons_zero] at r0 r1 r2
    go_wp2_with fail
    clear r0 r1 r2
    refine wp_region_noPanic ?_
    refine wp_region_held_drew (S := fun u => Below w1.heap.size w1 u) (by kernel_rfl) (Below.refl _ _).drew (fun hS0 => ?_)
    have HS0 := Lib.hid hS0
    clear hS0
    refine take_val 0 (.pointer (some ⟨w.heap.size, 0, none⟩)) rfl (by kernel_rfl) (by kernel_rfl) (by kernel_rfl) (fun _ _ _ _ h => h) (by rfl) rfl (fun wz hS => by go_simp) HS0.out ?_
    try simp only [List.set_cons_zero, List.set_cons_succ]
    refine take_val 1 (.slice ta T.length tc) rfl (by kernel_rfl) (by kernel_rfl) (by kernel_rfl) (fun _ _ _ _ h => h) (by rfl) rfl (fun wz hS => by have hz := cell_of_row _ _ 0 _ _ _ ((hS.block _ (lt_of_block HQ0.out)).trans HQ0.out); simp only [List.getElem?_toArray, List.getElem?_cons_zero, List.getElem?_cons_succ] at hz; go_simp) HS0.out ?_
    try simp only [List.set_cons_zero, List.set_cons_succ]
    refine take_val 3 (.pointer (some ⟨w.heap.size, 1, none⟩)) rfl (by kernel_rfl) (by kernel_rfl) (by kernel_rfl) (fun _ _ _ _ h => h) (by rfl) rfl (fun wz hS => by go_simp) HS0.out ?_
    try simp only [List.set_cons_zero, List.set_cons_succ]
    refine take_val 4 (.slice ha had.length hc) rfl (by kernel_rfl) (by kernel_rfl) (by kernel_rfl) (fun _ _ _ _ h => h) (by rfl) rfl (fun wz hS => by have hz := cell_of_row _ _ 1 _ _ _ ((hS.block _ (lt_of_block HQ0.out)).trans HQ0.out); simp only [List.getElem?_toArray, List.getElem?_cons_zero, List.getElem?_cons_succ] at hz; go_simp) HS0.out ?_
    try simp only [List.set_cons_zero, List.set_cons_succ]
    refine take_val 6 (.pointer (some ⟨w.heap.size, 2, none⟩)) rfl (by kernel_rfl) (by kernel_rfl) (by kernel_rfl) (fun _ _ _ _ h => h) (by rfl) rfl (fun wz hS => by go_simp) HS0.out ?_
    try simp only [List.set_cons_zero, List.set_cons_succ]
    refine take_val 7 (.int .i64 (B : Int)) rfl (by kernel_rfl) (by kernel_rfl) (by kernel_rfl) (fun _ _ _ _ h => h) (by rfl) rfl (fun wz hS => by have hz := cell_of_row _ _ 2 _ _ _ ((hS.block _ (lt_of_block HQ0.out)).trans HQ0.out); simp only [List.getElem?_toArray, List.getElem?_cons_zero, List.getElem?_cons_succ] at hz; go_simp) HS0.out ?_
    try simp only [List.set_cons_zero, List.set_cons_succ]
    refine wpAnyH_obls (γ := (Option Addr × Nat × Option Addr × Nat × Nat)) [2, 5, 9, 10] (fun kx (g : (Option Addr × Nat × Option Addr × Nat × Nat)) w' => (kx = 2 → w'.ownsRow w1.heap.size 9 1 (.slice g.1 T.length g.2.1) T.length (T.flatMap stC)) ∧ (kx = 5 → w'.ownsRow w1.heap.size 4 1 (.slice g.2.2.1 had.length g.2.2.2.1) had.length (had.flatMap boC)) ∧ (kx = 9 → RowZ 25 w1.heap.size g.2.2.2.2 3 w') ∧ (kx = 10 → w'.heap[g.2.2.2.2]? = some (.cells #[.slice g.1 T.length g.2.1, .slice g.2.2.1 had.length g.2.2.2.1, .int .i64 (B : Int)] 25 (0, 0)))) [16, 19, 22, 7] (fun g => [.slice g.1 T.length g.2.1, .slice g.2.2.1 had.length g.2.2.2.1, .agg #[.slice g.1 T.length g.2.1, .slice g.2.2.1 had.length g.2.2.2.1, .int .i64 (B : Int)], .pointer (some ⟨g.2.2.2.2, 0, none⟩)]) [2, 5, 8, 9, 10] (none, 0, none, 0, 0) (by kernel_rfl) (by kernel_rfl) (by kernel_rfl) (by kernel_rfl) (by kernel_rfl) (by kernel_rfl) (by decide +kernel) (fun _ _ _ _ h => h) HS0.out ?_ ?_
    · skip
      refine .callM _ 16 [22] _ _ (by kernel_rfl) rfl rfl (fun g => by kernel_rfl) (fun g u hS => by simp only [setAll, List.zip_cons_cons, List.zip_nil_right, List.foldl_cons, List.foldl_nil, List.set_cons_zero, List.set_cons_succ]; go_simp) (fun g u hS hB => ((HCS.out u (HT.out.below (Below.step HB1.out hS)) (by omega)).mono (fun e w' hcl => ?_))) ?_
      · obtain ⟨hbw, x, y, rfl, hown⟩ := hcl
        exact ⟨(x, y, g.2.2.1, g.2.2.2.1, g.2.2.2.2), _, rfl, rfl, Below.step hS hbw, ⟨fun _ => own_mono hown hS.size, fun e => absurd e (by decide), fun e => absurd e (by decide), fun e => absurd e (by decide)⟩, fun k hk hne hna hb => ⟨fun e => absurd e hne, fun e => own_belowK (hb.2.1 e) hbw, fun e => RowZ.below (hb.2.2.1 e) hbw, fun e => by subst e; exact absurd hna (by decide +kernel)⟩, fun t ht => (show Differ [16, 22] _ _ by simp only [List.zip_cons_cons, List.zip_nil_right]; repeat (first | exact .nil | refine .same ?_ | refine .diff (by decide) ?_)).get _ _ rfl (fun _ _ => rfl) t ht⟩
      refine .callM _ 19 [22] _ _ (by kernel_rfl) rfl rfl (fun g => by kernel_rfl) (fun g u hS => by simp only [setAll, List.zip_cons_cons, List.zip_nil_right, List.foldl_cons, List.foldl_nil, List.set_cons_zero, List.set_cons_succ]; go_simp) (fun g u hS hB => ((HCB.out u (HH.out.below (Below.step HB1.out hS)) (by omega)).mono (fun e w' hcl => ?_))) ?_
      · obtain ⟨hbw, x, y, rfl, hown⟩ := hcl
        exact ⟨(g.1, g.2.1, x, y, g.2.2.2.2), _, rfl, rfl, Below.step hS hbw, ⟨fun e => absurd e (by decide), fun _ => own_mono hown hS.size, fun e => absurd e (by decide), fun e => absurd e (by decide)⟩, fun k hk hne hna hb => ⟨fun e => own_belowK (hb.1 e) hbw, fun e => absurd e hne, fun e => RowZ.below (hb.2.2.1 e) hbw, fun e => by subst e; exact absurd hna (by decide +kernel)⟩, fun t ht => (show Differ [19, 22] _ _ by simp only [List.zip_cons_cons, List.zip_nil_right]; repeat (first | exact .nil | refine .same ?_ | refine .diff (by decide) ?_)).get _ _ rfl (fun _ _ => rfl) t ht⟩
      refine .val _ 22 (fun g => .agg #[.slice g.1 T.length g.2.1, .slice g.2.2.1 had.length g.2.2.2.1, .int .i64 (B : Int)]) rfl (by decide) rfl (fun g => by kernel_rfl) (fun g u hS hB => by simp only [setAll, List.zip_cons_cons, List.zip_nil_right, List.foldl_cons, List.foldl_nil, List.set_cons_zero, List.set_cons_succ]; go_simp) (fun g => by rfl) ?_
      refine .mk _ 7 [] (by kernel_rfl) rfl rfl (fun g => by kernel_rfl) (fun g u hS hB => ⟨(g.1, g.2.1, g.2.2.1, g.2.2.2.1, u.heap.size), .pointer (some ⟨u.heap.size, 0, none⟩), u.alloc (.cells #[.slice none 0 0, .slice none 0 0, .int .i64 0] 25), by simp only [setAll, List.zip_cons_cons, List.zip_nil_right, List.foldl_cons, List.foldl_nil, List.set_cons_zero, List.set_cons_succ]; go_simp, by rfl, hS.alloc hS.size _, ⟨fun e => absurd e (by decide), fun e => absurd e (by decide), fun _ => ⟨hS.size, _, heap_alloc_new u _, rfl⟩, fun e => absurd e (by decide)⟩, fun k hk hne hna hb => have hbw : Below u.heap.size u (u.alloc (.cells #[.slice none 0 0, .slice none 0 0, .int .i64 0] 25)) := (Below.refl _ _).alloc (Nat.le_refl _) _; ⟨fun e => own_belowK (hb.1 e) hbw, fun e => own_belowK (hb.2.1 e) hbw, fun e => absurd e hne, fun e => by subst e; exact absurd hna (by decide +kernel)⟩, fun t ht => (show Differ [7] _ _ by simp only [List.zip_cons_cons, List.zip_nil_right]; repeat (first | exact .nil | refine .same ?_ | refine .diff (by decide) ?_)).get _ _ rfl (fun _ _ => rfl) t ht⟩) ?_
      refine .eff _ rfl rfl (fun g => by kernel_rfl) (fun g u hS hB => by simp only [setAll, List.zip_cons_cons, List.zip_nil_right, List.foldl_cons, List.foldl_nil, List.set_cons_zero, List.set_cons_succ]; exact (st_row (B := w1.heap.size) (w0 := w1) (b := g.2.2.2.2) (n := 3) (full := #[.slice g.1 T.length g.2.1, .slice g.2.2.1 had.length g.2.2.2.1, .int .i64 (B : Int)]) rfl rfl rfl hS ((hB 9 (by decide) (by kernel_rfl)).2.2.1 rfl) rfl HI.out (sender_one _ _ _ _ _ _ _) rfl) |> Oper.wp_mono (fun a' w' h => ⟨h.1, h.2.1, ⟨fun e => absurd e (by decide), fun e => absurd e (by decide), fun e => absurd e (by decide), fun _ => h.2.2.1⟩, fun k hk hne hb => ⟨fun e => own_keep (hb.1 e) (fun g' cs hg' _ => h.2.2.2 g' (rowz_ne hg' ((hB 9 (by decide) (by kernel_rfl)).2.2.1 rfl) (by decide))), fun e => own_keep (hb.2.1 e) (fun g' cs hg' _ => h.2.2.2 g' (rowz_ne hg' ((hB 9 (by decide) (by kernel_rfl)).2.2.1 rfl) (by decide))), fun e => ⟨(hb.2.2.1 e).1, _, h.2.2.1, rfl⟩, fun e => absurd e hne⟩⟩)) ?_
      exact .nil
    intro gg u hS hB
    refine NoPanic.normal ?_
    obtain ⟨a1, c1, a2, c2, ob⟩ := gg
    simp only [setAll, List.zip_cons_cons, List.zip_nil_right, List.foldl_cons, List.foldl_nil, List.set_cons_zero, List.set_cons_succ]
    have HST : Hid (HSt w1.heap.size ob a1 c1 a2 c2 T had B u) := ⟨(hB 2 (by decide)).1 rfl, (hB 5 (by decide)).2.1 rfl, (hB 10 (by decide)).2.2.2 rfl, ((hB 9 (by decide)).2.2.1 rfl).1⟩
    have HBU := Lib.hid (Below.step HB1.out hS)
    have HU1 := Lib.hid ((hS.block _ (lt_of_block HQ1.out)).trans HQ1.out)
    have HU2 := Lib.hid ((hS.block _ (lt_of_block HQ2.out)).trans HQ2.out)
    clear hS hB HS0 HQ0 HQ1 HQ2
    have p0 := cell_of_row _ _ 0 _ _ _ HU1.out
    have p1 := cell_of_row _ _ 1 _ _ _ HU1.out
    have q0 := cell_of_row _ _ 0 _ _ _ HST.out.2.2.1
    have q1 := cell_of_row _ _ 1 _ _ _ HST.out.2.2.1
    have q2 := cell_of_row _ _ 2 _ _ _ HST.out.2.2.1
    simp only [List.getElem?_toArray, List.getElem?_cons_succ, List.getElem?_cons_zero] at p0 p1 q0 q1 q2
    by_cases hk : k = 2
    · subst hk
      by_cases hq0 : 0 ≤ q
      · obtain ⟨Q, rfl⟩ : ∃ Q : Nat, q = (Q : Int) := ⟨q.toNat, by omega⟩
        have g1 : ((Q : Int) ≥ 0) := hq0
        by_cases hqn : Q < had.length
        · have g2 : (Q : Int) < (had.length : Int) := by omega
          obtain ⟨g, ha2, hgB, d0, d1⟩ := HST.out.bools Q hqn _ rfl
          obtain ⟨H2, hH2⟩ : ∃ H2, hear had ((2, (Q : Int), s) : PkT) = H2 := ⟨_, rfl⟩
          have HHE : Hid (hear had ((2, (Q : Int), s) : PkT) = had.set Q true) := by
            show _ = _
            unfold hear
            rw [if_pos ⟨rfl, hq0, g2⟩]
            simp
          have hset : had.set Q true = H2 := HHE.out.symm.trans hH2
          have HM := HST.out.mark ha2 Q hqn
          rw [ha2] at q1
          clear ha2
          rw [hset] at HM
          have HST2 := Lib.hid HM
          have HL2 : H2.length = T.length := by rw [← hset, List.length_set]; exact HHL.out
          have HBU2 := Lib.hid (HBU.out.setCell (p := ⟨g, Q, none⟩) (by have := HSZ1.out; show _ ≤ g; omega) (.bool true))
          have HUW2 := Lib.hid ((Below.heap_setCell u ⟨g, Q, none⟩ (.bool true) (w.heap.size + 1 + 1) (by have := HSZ1.out; show _ ≠ g; omega)).trans HU2.out)
          have HH2 := Lib.hid hH2
          have HL2' := Lib.hid HL2
          clear hH2 hset HM HHE HL2
          go_wp2_with fail
          go_loopw [] (fun wr => ∃ b' : Nat, B ≤ b' ∧ b' ≤ T.length ∧ Hid (HSt w1.heap.size ob a1 c1 a2 c2 T H2 b' wr) ∧ Hid (Below w.heap.size w wr) ∧ Hid (wr.heap[w.heap.size + 1 + 1]? = some (.cells #[.slice none 0 0, .slice none 0 0, .int .i64 0] 25 (0, 0))) ∧ Hid (∀ i, B ≤ i → i < b' → H2[i]? = some true)) (fun wr => T.length - (intOf ((wr.cell? ⟨ob, 2, none⟩).getD undef)).toNat)
          case atStart => exact ⟨B, Nat.le_refl _, hBn, HST2, HBU2, HUW2, Lib.hid (fun i h1 h2 => by omega)⟩
          case round =>
            obtain ⟨b', hb1, hb2, HSR, HBW, HRW, HTR⟩ := hrel
            have o0 := cell_of_row _ _ 0 _ _ _ HSR.out.2.2.1
            have o1 := cell_of_row _ _ 1 _ _ _ HSR.out.2.2.1
            have o2 := cell_of_row _ _ 2 _ _ _ HSR.out.2.2.1
            have o3 := frozen_of_row _ _ 2 _ _ HSR.out.2.2.1
            simp only [List.getElem?_toArray, List.getElem?_cons_succ, List.getElem?_cons_zero] at o0 o1 o2
            have mb : (0 : Int) ≤ (b' : Int) := Int.natCast_nonneg _
            have HLE : Hid (H2.length = T.length) := HL2'.out
            by_cases hlt : b' < H2.length
            · have n1 : (b' : Int) < (H2.length : Int) := by omega
              obtain ⟨y, hy⟩ : ∃ y, H2[b'] = y := ⟨_, rfl⟩
              obtain ⟨g, rfl, hgB, d0, _⟩ := HSR.out.bools b' hlt y hy
              have HY : Hid (H2[b']? = some y) := by show _ = _; rw [List.getElem?_eq_getElem hlt, hy]
              clear hy
              cases y with
              | true =>
                have hadd : IntKind.i64.wrap ((b' : Int) + 1) = (b' : Int) + 1 := wraps_i64 _ (by omega) (by have := HLE.out; omega)
                have HNX := Lib.hid (HSR.out.base (b' + 1))
                have HBX := Lib.hid (HBW.out.setCell (p := ⟨ob, 2, none⟩) (by have := HSR.out.2.2.2; have := HSZ1.out; show _ ≤ ob; omega) (.int .i64 ((b' + 1 : Nat) : Int)))
                have HRX := Lib.hid ((Below.heap_setCell wr ⟨ob, 2, none⟩ (.int .i64 ((b' + 1 : Nat) : Int)) (w.heap.size + 1 + 1) (by have := HSR.out.2.2.2; have := HSZ1.out; show _ ≠ ob; omega)).trans HRW.out)
                have HTX : Hid (∀ i, B ≤ i → i < b' + 1 → H2[i]? = some true) := fun i h1 h2 => by
                  rcases Nat.lt_or_ge i b' with h3 | h3
                  · exact HTR.out i h1 h3
                  · obtain rfl : i = b' := by omega
                    exact HY.out
                have E1 := Lib.hid o2
                have E2 := Lib.hid (cell_of_row _ _ 2 _ _ _ HNX.out.2.2.1)
                have hcast : ((b' + 1 : Nat) : Int) = (b' : Int) + 1 := by omega
                rw [hcast] at HNX HBX HRX E2
                clear hcast
                go_wp2_with fail
                go_roundw
                case rel => exact ⟨b' + 1, by omega, by have := HLE.out; omega, by have h := HNX.out; exact Lib.hid (by simpa using h), HBX, HRX, HTX⟩
                case measure =>
                  have e1 := E1.out
                  have e2 := E2.out
                  simp only [List.getElem?_toArray, List.getElem?_cons_succ, List.getElem?_cons_zero] at e2
                  rw [e1, e2]
                  simp only [Option.getD_some, intOf]
                  have := HLE.out
                  omega
              | false =>
                have HADV : Hid (Adv H2 B b') := ⟨hb1, by have := HLE.out; omega, HTR.out, .inr HY.out⟩
                have HTH : Hid (World.there wr (w.heap.size + 1 + 1) 0 (#[.slice a1 T.length c1, .slice (some ⟨g, 0, none⟩) H2.length c2, .int .i64 (b' : Int)] : Array Value).size) := there_row (cs := #[.slice none 0 0, .slice none 0 0, .int .i64 0]) HRW.out
                have HON := Lib.hid (sender_one a1 T.length c1 (some ⟨g, 0, none⟩) H2.length c2 (b' : Int))
                have HIN : Hid ((Try.prog.info? 25).map (·.size) = some (#[.slice a1 T.length c1, .slice (some ⟨g, 0, none⟩) H2.length c2, .int .i64 (b' : Int)] : Array Value).size) := HI.out
                go_wp2_with (with_reducible refine wpList_store_mid rfl 25 (.tmp 4) (.tmp 62) rfl (w.heap.size + 1 + 1) 0 #[.slice a1 T.length c1, .slice (some ⟨g, 0, none⟩) H2.length c2, .int .i64 (b' : Int)] rfl rfl HTH.out HIN.out HON.out ?_)
                have hk1 : w.heap.size + 1 + 1 < w1.heap.size := by have := HSZ1.out; omega
                have hown1 := own_keep (w' := wr.setCells (w.heap.size + 1 + 1) 0 [.slice a1 T.length c1, .slice (some ⟨g, 0, none⟩) H2.length c2, .int .i64 (b' : Int)]) HSR.out.1 fun g cs hg hB => heap_setCells_other _ _ (by omega) _ _ _
                have hown2 := own_keep (w' := wr.setCells (w.heap.size + 1 + 1) 0 [.slice a1 T.length c1, .slice (some ⟨g, 0, none⟩) H2.length c2, .int .i64 (b' : Int)]) HSR.out.2.1 fun g cs hg hB => heap_setCells_other _ _ (by omega) _ _ _
                refine bodyPost_ret (results_row_tmp1 (p := 4) (q := 5) (ty := 25) rfl _ _ (w.heap.size + 1 + 1) 25 #[.slice a1 T.length c1, .slice (some ⟨g, 0, none⟩) H2.length c2, .int .i64 (b' : Int)] (0, 0) _ rfl (setCells_full HRW.out #[.slice a1 T.length c1, .slice (some ⟨g, 0, none⟩) H2.length c2, .int .i64 (b' : Int)] rfl) Try.underlying25 rfl HIN.out) rfl ?_
                have hH := HH2.out
                unfold HrEnd
                rw [hH]
                exact ⟨below_setCells (by omega) _ _ HBW.out, .inr ⟨HOK.out, a1, c1, (some ⟨g, 0, none⟩), c2, b', rfl, sat_own1 stC_length hown1, sat_own1 boC_length hown2, (nb_own hown1).mono (by omega), (nb_own hown2).mono (by omega), HADV.out⟩⟩
            · have n1 : ¬ ((b' : Int) < (H2.length : Int)) := by omega
              have HADV : Hid (Adv H2 B b') := ⟨hb1, by have := HLE.out; omega, HTR.out, .inl (by have := HLE.out; omega)⟩
              have HTH : Hid (World.there wr (w.heap.size + 1 + 1) 0 (#[.slice a1 T.length c1, .slice a2 H2.length c2, .int .i64 (b' : Int)] : Array Value).size) := there_row (cs := #[.slice none 0 0, .slice none 0 0, .int .i64 0]) HRW.out
              have HON := Lib.hid (sender_one a1 T.length c1 a2 H2.length c2 (b' : Int))
              have HIN : Hid ((Try.prog.info? 25).map (·.size) = some (#[.slice a1 T.length c1, .slice a2 H2.length c2, .int .i64 (b' : Int)] : Array Value).size) := HI.out
              go_wp2_with (with_reducible refine wpList_store_mid rfl 25 (.tmp 4) (.tmp 62) rfl (w.heap.size + 1 + 1) 0 #[.slice a1 T.length c1, .slice a2 H2.length c2, .int .i64 (b' : Int)] rfl rfl HTH.out HIN.out HON.out ?_)
              have hk1 : w.heap.size + 1 + 1 < w1.heap.size := by have := HSZ1.out; omega
              have hown1 := own_keep (w' := wr.setCells (w.heap.size + 1 + 1) 0 [.slice a1 T.length c1, .slice a2 H2.length c2, .int .i64 (b' : Int)]) HSR.out.1 fun g cs hg hB => heap_setCells_other _ _ (by omega) _ _ _
              have hown2 := own_keep (w' := wr.setCells (w.heap.size + 1 + 1) 0 [.slice a1 T.length c1, .slice a2 H2.length c2, .int .i64 (b' : Int)]) HSR.out.2.1 fun g cs hg hB => heap_setCells_other _ _ (by omega) _ _ _
              refine bodyPost_ret (results_row_tmp1 (p := 4) (q := 5) (ty := 25) rfl _ _ (w.heap.size + 1 + 1) 25 #[.slice a1 T.length c1, .slice a2 H2.length c2, .int .i64 (b' : Int)] (0, 0) _ rfl (setCells_full HRW.out #[.slice a1 T.length c1, .slice a2 H2.length c2, .int .i64 (b' : Int)] rfl) Try.underlying25 rfl HIN.out) rfl ?_
              have hH := HH2.out
              unfold HrEnd
              rw [hH]
              exact ⟨below_setCells (by omega) _ _ HBW.out, .inr ⟨HOK.out, a1, c1, a2, c2, b', rfl, sat_own1 stC_length hown1, sat_own1 boC_length hown2, (nb_own hown1).mono (by omega), (nb_own hown2).mono (by omega), HADV.out⟩⟩
        · have g2 : ¬ ((Q : Int) < (had.length : Int)) := by omega
          have HHE : Hid (hear had ((2, (Q : Int), s) : PkT) = had) := by
            show _ = _
            unfold hear
            rw [if_neg (fun h => g2 h.2.2)]
          have HH2 := HHE
          have HL2' := HHL
          have HST2 := HST
          have HBU2 := HBU
          have HUW2 := HU2
          go_wp2_with fail
          go_loopw [] (fun wr => ∃ b' : Nat, B ≤ b' ∧ b' ≤ T.length ∧ Hid (HSt w1.heap.size ob a1 c1 a2 c2 T had b' wr) ∧ Hid (Below w.heap.size w wr) ∧ Hid (wr.heap[w.heap.size + 1 + 1]? = some (.cells #[.slice none 0 0, .slice none 0 0, .int .i64 0] 25 (0, 0))) ∧ Hid (∀ i, B ≤ i → i < b' → had[i]? = some true)) (fun wr => T.length - (intOf ((wr.cell? ⟨ob, 2, none⟩).getD undef)).toNat)
          case atStart => exact ⟨B, Nat.le_refl _, hBn, HST2, HBU2, HUW2, Lib.hid (fun i h1 h2 => by omega)⟩
          case round =>
            obtain ⟨b', hb1, hb2, HSR, HBW, HRW, HTR⟩ := hrel
            have o0 := cell_of_row _ _ 0 _ _ _ HSR.out.2.2.1
            have o1 := cell_of_row _ _ 1 _ _ _ HSR.out.2.2.1
            have o2 := cell_of_row _ _ 2 _ _ _ HSR.out.2.2.1
            have o3 := frozen_of_row _ _ 2 _ _ HSR.out.2.2.1
            simp only [List.getElem?_toArray, List.getElem?_cons_succ, List.getElem?_cons_zero] at o0 o1 o2
            have mb : (0 : Int) ≤ (b' : Int) := Int.natCast_nonneg _
            have HLE : Hid (had.length = T.length) := HL2'.out
            by_cases hlt : b' < had.length
            · have n1 : (b' : Int) < (had.length : Int) := by omega
              obtain ⟨y, hy⟩ : ∃ y, had[b'] = y := ⟨_, rfl⟩
              obtain ⟨g, rfl, hgB, d0, _⟩ := HSR.out.bools b' hlt y hy
              have HY : Hid (had[b']? = some y) := by show _ = _; rw [List.getElem?_eq_getElem hlt, hy]
              clear hy
              cases y with
              | true =>
                have hadd : IntKind.i64.wrap ((b' : Int) + 1) = (b' : Int) + 1 := wraps_i64 _ (by omega) (by have := HLE.out; omega)
                have HNX := Lib.hid (HSR.out.base (b' + 1))
                have HBX := Lib.hid (HBW.out.setCell (p := ⟨ob, 2, none⟩) (by have := HSR.out.2.2.2; have := HSZ1.out; show _ ≤ ob; omega) (.int .i64 ((b' + 1 : Nat) : Int)))
                have HRX := Lib.hid ((Below.heap_setCell wr ⟨ob, 2, none⟩ (.int .i64 ((b' + 1 : Nat) : Int)) (w.heap.size + 1 + 1) (by have := HSR.out.2.2.2; have := HSZ1.out; show _ ≠ ob; omega)).trans HRW.out)
                have HTX : Hid (∀ i, B ≤ i → i < b' + 1 → had[i]? = some true) := fun i h1 h2 => by
                  rcases Nat.lt_or_ge i b' with h3 | h3
                  · exact HTR.out i h1 h3
                  · obtain rfl : i = b' := by omega
                    exact HY.out
                have E1 := Lib.hid o2
                have E2 := Lib.hid (cell_of_row _ _ 2 _ _ _ HNX.out.2.2.1)
                have hcast : ((b' + 1 : Nat) : Int) = (b' : Int) + 1 := by omega
                rw [hcast] at HNX HBX HRX E2
                clear hcast
                go_wp2_with fail
                go_roundw
                case rel => exact ⟨b' + 1, by omega, by have := HLE.out; omega, by have h := HNX.out; exact Lib.hid (by simpa using h), HBX, HRX, HTX⟩
                case measure =>
                  have e1 := E1.out
                  have e2 := E2.out
                  simp only [List.getElem?_toArray, List.getElem?_cons_succ, List.getElem?_cons_zero] at e2
                  rw [e1, e2]
                  simp only [Option.getD_some, intOf]
                  have := HLE.out
                  omega
              | false =>
                have HADV : Hid (Adv had B b') := ⟨hb1, by have := HLE.out; omega, HTR.out, .inr HY.out⟩
                have HTH : Hid (World.there wr (w.heap.size + 1 + 1) 0 (#[.slice a1 T.length c1, .slice (some ⟨g, 0, none⟩) had.length c2, .int .i64 (b' : Int)] : Array Value).size) := there_row (cs := #[.slice none 0 0, .slice none 0 0, .int .i64 0]) HRW.out
                have HON := Lib.hid (sender_one a1 T.length c1 (some ⟨g, 0, none⟩) had.length c2 (b' : Int))
                have HIN : Hid ((Try.prog.info? 25).map (·.size) = some (#[.slice a1 T.length c1, .slice (some ⟨g, 0, none⟩) had.length c2, .int .i64 (b' : Int)] : Array Value).size) := HI.out
                go_wp2_with (with_reducible refine wpList_store_mid rfl 25 (.tmp 4) (.tmp 62) rfl (w.heap.size + 1 + 1) 0 #[.slice a1 T.length c1, .slice (some ⟨g, 0, none⟩) had.length c2, .int .i64 (b' : Int)] rfl rfl HTH.out HIN.out HON.out ?_)
                have hk1 : w.heap.size + 1 + 1 < w1.heap.size := by have := HSZ1.out; omega
                have hown1 := own_keep (w' := wr.setCells (w.heap.size + 1 + 1) 0 [.slice a1 T.length c1, .slice (some ⟨g, 0, none⟩) had.length c2, .int .i64 (b' : Int)]) HSR.out.1 fun g cs hg hB => heap_setCells_other _ _ (by omega) _ _ _
                have hown2 := own_keep (w' := wr.setCells (w.heap.size + 1 + 1) 0 [.slice a1 T.length c1, .slice (some ⟨g, 0, none⟩) had.length c2, .int .i64 (b' : Int)]) HSR.out.2.1 fun g cs hg hB => heap_setCells_other _ _ (by omega) _ _ _
                refine bodyPost_ret (results_row_tmp1 (p := 4) (q := 5) (ty := 25) rfl _ _ (w.heap.size + 1 + 1) 25 #[.slice a1 T.length c1, .slice (some ⟨g, 0, none⟩) had.length c2, .int .i64 (b' : Int)] (0, 0) _ rfl (setCells_full HRW.out #[.slice a1 T.length c1, .slice (some ⟨g, 0, none⟩) had.length c2, .int .i64 (b' : Int)] rfl) Try.underlying25 rfl HIN.out) rfl ?_
                have hH := HH2.out
                unfold HrEnd
                rw [hH]
                exact ⟨below_setCells (by omega) _ _ HBW.out, .inr ⟨HOK.out, a1, c1, (some ⟨g, 0, none⟩), c2, b', rfl, sat_own1 stC_length hown1, sat_own1 boC_length hown2, (nb_own hown1).mono (by omega), (nb_own hown2).mono (by omega), HADV.out⟩⟩
            · have n1 : ¬ ((b' : Int) < (had.length : Int)) := by omega
              have HADV : Hid (Adv had B b') := ⟨hb1, by have := HLE.out; omega, HTR.out, .inl (by have := HLE.out; omega)⟩
              have HTH : Hid (World.there wr (w.heap.size + 1 + 1) 0 (#[.slice a1 T.length c1, .slice a2 had.length c2, .int .i64 (b' : Int)] : Array Value).size) := there_row (cs := #[.slice none 0 0, .slice none 0 0, .int .i64 0]) HRW.out
              have HON := Lib.hid (sender_one a1 T.length c1 a2 had.length c2 (b' : Int))
              have HIN : Hid ((Try.prog.info? 25).map (·.size) = some (#[.slice a1 T.length c1, .slice a2 had.length c2, .int .i64 (b' : Int)] : Array Value).size) := HI.out
              go_wp2_with (with_reducible refine wpList_store_mid rfl 25 (.tmp 4) (.tmp 62) rfl (w.heap.size + 1 + 1) 0 #[.slice a1 T.length c1, .slice a2 had.length c2, .int .i64 (b' : Int)] rfl rfl HTH.out HIN.out HON.out ?_)
              have hk1 : w.heap.size + 1 + 1 < w1.heap.size := by have := HSZ1.out; omega
              have hown1 := own_keep (w' := wr.setCells (w.heap.size + 1 + 1) 0 [.slice a1 T.length c1, .slice a2 had.length c2, .int .i64 (b' : Int)]) HSR.out.1 fun g cs hg hB => heap_setCells_other _ _ (by omega) _ _ _
              have hown2 := own_keep (w' := wr.setCells (w.heap.size + 1 + 1) 0 [.slice a1 T.length c1, .slice a2 had.length c2, .int .i64 (b' : Int)]) HSR.out.2.1 fun g cs hg hB => heap_setCells_other _ _ (by omega) _ _ _
              refine bodyPost_ret (results_row_tmp1 (p := 4) (q := 5) (ty := 25) rfl _ _ (w.heap.size + 1 + 1) 25 #[.slice a1 T.length c1, .slice a2 had.length c2, .int .i64 (b' : Int)] (0, 0) _ rfl (setCells_full HRW.out #[.slice a1 T.length c1, .slice a2 had.length c2, .int .i64 (b' : Int)] rfl) Try.underlying25 rfl HIN.out) rfl ?_
              have hH := HH2.out
              unfold HrEnd
              rw [hH]
              exact ⟨below_setCells (by omega) _ _ HBW.out, .inr ⟨HOK.out, a1, c1, a2, c2, b', rfl, sat_own1 stC_length hown1, sat_own1 boC_length hown2, (nb_own hown1).mono (by omega), (nb_own hown2).mono (by omega), HADV.out⟩⟩
      · have g1 : ¬ (q ≥ 0) := by omega
        have HHE : Hid (hear had ((2, q, s) : PkT) = had) := by
          show _ = _
          unfold hear
          rw [if_neg (fun h => hq0 h.2.1)]
        have HH2 := HHE
        have HL2' := HHL
        have HST2 := HST
        have HBU2 := HBU
        have HUW2 := HU2
        go_wp2_with fail
        go_loopw [] (fun wr => ∃ b' : Nat, B ≤ b' ∧ b' ≤ T.length ∧ Hid (HSt w1.heap.size ob a1 c1 a2 c2 T had b' wr) ∧ Hid (Below w.heap.size w wr) ∧ Hid (wr.heap[w.heap.size + 1 + 1]? = some (.cells #[.slice none 0 0, .slice none 0 0, .int .i64 0] 25 (0, 0))) ∧ Hid (∀ i, B ≤ i → i < b' → had[i]? = some true)) (fun wr => T.length - (intOf ((wr.cell? ⟨ob, 2, none⟩).getD undef)).toNat)
        case atStart => exact ⟨B, Nat.le_refl _, hBn, HST2, HBU2, HUW2, Lib.hid (fun i h1 h2 => by omega)⟩
        case round =>
          obtain ⟨b', hb1, hb2, HSR, HBW, HRW, HTR⟩ := hrel
          have o0 := cell_of_row _ _ 0 _ _ _ HSR.out.2.2.1
          have o1 := cell_of_row _ _ 1 _ _ _ HSR.out.2.2.1
          have o2 := cell_of_row _ _ 2 _ _ _ HSR.out.2.2.1
          have o3 := frozen_of_row _ _ 2 _ _ HSR.out.2.2.1
          simp only [List.getElem?_toArray, List.getElem?_cons_succ, List.getElem?_cons_zero] at o0 o1 o2
          have mb : (0 : Int) ≤ (b' : Int) := Int.natCast_nonneg _
          have HLE : Hid (had.length = T.length) := HL2'.out
          by_cases hlt : b' < had.length
          · have n1 : (b' : Int) < (had.length : Int) := by omega
            obtain ⟨y, hy⟩ : ∃ y, had[b'] = y := ⟨_, rfl⟩
            obtain ⟨g, rfl, hgB, d0, _⟩ := HSR.out.bools b' hlt y hy
            have HY : Hid (had[b']? = some y) := by show _ = _; rw [List.getElem?_eq_getElem hlt, hy]
            clear hy
            cases y with
            | true =>
              have hadd : IntKind.i64.wrap ((b' : Int) + 1) = (b' : Int) + 1 := wraps_i64 _ (by omega) (by have := HLE.out; omega)
              have HNX := Lib.hid (HSR.out.base (b' + 1))
              have HBX := Lib.hid (HBW.out.setCell (p := ⟨ob, 2, none⟩) (by have := HSR.out.2.2.2; have := HSZ1.out; show _ ≤ ob; omega) (.int .i64 ((b' + 1 : Nat) : Int)))
              have HRX := Lib.hid ((Below.heap_setCell wr ⟨ob, 2, none⟩ (.int .i64 ((b' + 1 : Nat) : Int)) (w.heap.size + 1 + 1) (by have := HSR.out.2.2.2; have := HSZ1.out; show _ ≠ ob; omega)).trans HRW.out)
              have HTX : Hid (∀ i, B ≤ i → i < b' + 1 → had[i]? = some true) := fun i h1 h2 => by
                rcases Nat.lt_or_ge i b' with h3 | h3
                · exact HTR.out i h1 h3
                · obtain rfl : i = b' := by omega
                  exact HY.out
              have E1 := Lib.hid o2
              have E2 := Lib.hid (cell_of_row _ _ 2 _ _ _ HNX.out.2.2.1)
              have hcast : ((b' + 1 : Nat) : Int) = (b' : Int) + 1 := by omega
              rw [hcast] at HNX HBX HRX E2
              clear hcast
              go_wp2_with fail
              go_roundw
              case rel => exact ⟨b' + 1, by omega, by have := HLE.out; omega, by have h := HNX.out; exact Lib.hid (by simpa using h), HBX, HRX, HTX⟩
              case measure =>
                have e1 := E1.out
                have e2 := E2.out
                simp only [List.getElem?_toArray, List.getElem?_cons_succ, List.getElem?_cons_zero] at e2
                rw [e1, e2]
                simp only [Option.getD_some, intOf]
                have := HLE.out
                omega
            | false =>
              have HADV : Hid (Adv had B b') := ⟨hb1, by have := HLE.out; omega, HTR.out, .inr HY.out⟩
              have HTH : Hid (World.there wr (w.heap.size + 1 + 1) 0 (#[.slice a1 T.length c1, .slice (some ⟨g, 0, none⟩) had.length c2, .int .i64 (b' : Int)] : Array Value).size) := there_row (cs := #[.slice none 0 0, .slice none 0 0, .int .i64 0]) HRW.out
              have HON := Lib.hid (sender_one a1 T.length c1 (some ⟨g, 0, none⟩) had.length c2 (b' : Int))
              have HIN : Hid ((Try.prog.info? 25).map (·.size) = some (#[.slice a1 T.length c1, .slice (some ⟨g, 0, none⟩) had.length c2, .int .i64 (b' : Int)] : Array Value).size) := HI.out
              go_wp2_with (with_reducible refine wpList_store_mid rfl 25 (.tmp 4) (.tmp 62) rfl (w.heap.size + 1 + 1) 0 #[.slice a1 T.length c1, .slice (some ⟨g, 0, none⟩) had.length c2, .int .i64 (b' : Int)] rfl rfl HTH.out HIN.out HON.out ?_)
              have hk1 : w.heap.size + 1 + 1 < w1.heap.size := by have := HSZ1.out; omega
              have hown1 := own_keep (w' := wr.setCells (w.heap.size + 1 + 1) 0 [.slice a1 T.length c1, .slice (some ⟨g, 0, none⟩) had.length c2, .int .i64 (b' : Int)]) HSR.out.1 fun g cs hg hB => heap_setCells_other _ _ (by omega) _ _ _
              have hown2 := own_keep (w' := wr.setCells (w.heap.size + 1 + 1) 0 [.slice a1 T.length c1, .slice (some ⟨g, 0, none⟩) had.length c2, .int .i64 (b' : Int)]) HSR.out.2.1 fun g cs hg hB => heap_setCells_other _ _ (by omega) _ _ _
              refine bodyPost_ret (results_row_tmp1 (p := 4) (q := 5) (ty := 25) rfl _ _ (w.heap.size + 1 + 1) 25 #[.slice a1 T.length c1, .slice (some ⟨g, 0, none⟩) had.length c2, .int .i64 (b' : Int)] (0, 0) _ rfl (setCells_full HRW.out #[.slice a1 T.length c1, .slice (some ⟨g, 0, none⟩) had.length c2, .int .i64 (b' : Int)] rfl) Try.underlying25 rfl HIN.out) rfl ?_
              have hH := HH2.out
              unfold HrEnd
              rw [hH]
              exact ⟨below_setCells (by omega) _ _ HBW.out, .inr ⟨HOK.out, a1, c1, (some ⟨g, 0, none⟩), c2, b', rfl, sat_own1 stC_length hown1, sat_own1 boC_length hown2, (nb_own hown1).mono (by omega), (nb_own hown2).mono (by omega), HADV.out⟩⟩
          · have n1 : ¬ ((b' : Int) < (had.length : Int)) := by omega
            have HADV : Hid (Adv had B b') := ⟨hb1, by have := HLE.out; omega, HTR.out, .inl (by have := HLE.out; omega)⟩
            have HTH : Hid (World.there wr (w.heap.size + 1 + 1) 0 (#[.slice a1 T.length c1, .slice a2 had.length c2, .int .i64 (b' : Int)] : Array Value).size) := there_row (cs := #[.slice none 0 0, .slice none 0 0, .int .i64 0]) HRW.out
            have HON := Lib.hid (sender_one a1 T.length c1 a2 had.length c2 (b' : Int))
            have HIN : Hid ((Try.prog.info? 25).map (·.size) = some (#[.slice a1 T.length c1, .slice a2 had.length c2, .int .i64 (b' : Int)] : Array Value).size) := HI.out
            go_wp2_with (with_reducible refine wpList_store_mid rfl 25 (.tmp 4) (.tmp 62) rfl (w.heap.size + 1 + 1) 0 #[.slice a1 T.length c1, .slice a2 had.length c2, .int .i64 (b' : Int)] rfl rfl HTH.out HIN.out HON.out ?_)
            have hk1 : w.heap.size + 1 + 1 < w1.heap.size := by have := HSZ1.out; omega
            have hown1 := own_keep (w' := wr.setCells (w.heap.size + 1 + 1) 0 [.slice a1 T.length c1, .slice a2 had.length c2, .int .i64 (b' : Int)]) HSR.out.1 fun g cs hg hB => heap_setCells_other _ _ (by omega) _ _ _
            have hown2 := own_keep (w' := wr.setCells (w.heap.size + 1 + 1) 0 [.slice a1 T.length c1, .slice a2 had.length c2, .int .i64 (b' : Int)]) HSR.out.2.1 fun g cs hg hB => heap_setCells_other _ _ (by omega) _ _ _
            refine bodyPost_ret (results_row_tmp1 (p := 4) (q := 5) (ty := 25) rfl _ _ (w.heap.size + 1 + 1) 25 #[.slice a1 T.length c1, .slice a2 had.length c2, .int .i64 (b' : Int)] (0, 0) _ rfl (setCells_full HRW.out #[.slice a1 T.length c1, .slice a2 had.length c2, .int .i64 (b' : Int)] rfl) Try.underlying25 rfl HIN.out) rfl ?_
            have hH := HH2.out
            unfold HrEnd
            rw [hH]
            exact ⟨below_setCells (by omega) _ _ HBW.out, .inr ⟨HOK.out, a1, c1, a2, c2, b', rfl, sat_own1 stC_length hown1, sat_own1 boC_length hown2, (nb_own hown1).mono (by omega), (nb_own hown2).mono (by omega), HADV.out⟩⟩
    · have g1 : (k == 2) = false := by rw [beq_eq_false_iff_ne]; exact hk
      have HHE : Hid (hear had ((k, q, s) : PkT) = had) := by
        show _ = _
        unfold hear
        rw [if_neg (fun h => hk h.1)]
      have HH2 := HHE
      have HL2' := HHL
      have HST2 := HST
      have HBU2 := HBU
      have HUW2 := HU2
      go_wp2_with fail
      go_loopw [] (fun wr => ∃ b' : Nat, B ≤ b' ∧ b' ≤ T.length ∧ Hid (HSt w1.heap.size ob a1 c1 a2 c2 T had b' wr) ∧ Hid (Below w.heap.size w wr) ∧ Hid (wr.heap[w.heap.size + 1 + 1]? = some (.cells #[.slice none 0 0, .slice none 0 0, .int .i64 0] 25 (0, 0))) ∧ Hid (∀ i, B ≤ i → i < b' → had[i]? = some true)) (fun wr => T.length - (intOf ((wr.cell? ⟨ob, 2, none⟩).getD undef)).toNat)
      case atStart => exact ⟨B, Nat.le_refl _, hBn, HST2, HBU2, HUW2, Lib.hid (fun i h1 h2 => by omega)⟩
      case round =>
        obtain ⟨b', hb1, hb2, HSR, HBW, HRW, HTR⟩ := hrel
        have o0 := cell_of_row _ _ 0 _ _ _ HSR.out.2.2.1
        have o1 := cell_of_row _ _ 1 _ _ _ HSR.out.2.2.1
        have o2 := cell_of_row _ _ 2 _ _ _ HSR.out.2.2.1
        have o3 := frozen_of_row _ _ 2 _ _ HSR.out.2.2.1
        simp only [List.getElem?_toArray, List.getElem?_cons_succ, List.getElem?_cons_zero] at o0 o1 o2
        have mb : (0 : Int) ≤ (b' : Int) := Int.natCast_nonneg _
        have HLE : Hid (had.length = T.length) := HL2'.out
        by_cases hlt : b' < had.length
        · have n1 : (b' : Int) < (had.length : Int) := by omega
          obtain ⟨y, hy⟩ : ∃ y, had[b'] = y := ⟨_, rfl⟩
          obtain ⟨g, rfl, hgB, d0, _⟩ := HSR.out.bools b' hlt y hy
          have HY : Hid (had[b']? = some y) := by show _ = _; rw [List.getElem?_eq_getElem hlt, hy]
          clear hy
          cases y with
          | true =>
            have hadd : IntKind.i64.wrap ((b' : Int) + 1) = (b' : Int) + 1 := wraps_i64 _ (by omega) (by have := HLE.out; omega)
            have HNX := Lib.hid (HSR.out.base (b' + 1))
            have HBX := Lib.hid (HBW.out.setCell (p := ⟨ob, 2, none⟩) (by have := HSR.out.2.2.2; have := HSZ1.out; show _ ≤ ob; omega) (.int .i64 ((b' + 1 : Nat) : Int)))
            have HRX := Lib.hid ((Below.heap_setCell wr ⟨ob, 2, none⟩ (.int .i64 ((b' + 1 : Nat) : Int)) (w.heap.size + 1 + 1) (by have := HSR.out.2.2.2; have := HSZ1.out; show _ ≠ ob; omega)).trans HRW.out)
            have HTX : Hid (∀ i, B ≤ i → i < b' + 1 → had[i]? = some true) := fun i h1 h2 => by
              rcases Nat.lt_or_ge i b' with h3 | h3
              · exact HTR.out i h1 h3
              · obtain rfl : i = b' := by omega
                exact HY.out
            have E1 := Lib.hid o2
            have E2 := Lib.hid (cell_of_row _ _ 2 _ _ _ HNX.out.2.2.1)
            have hcast : ((b' + 1 : Nat) : Int) = (b' : Int) + 1 := by omega
            rw [hcast] at HNX HBX HRX E2
            clear hcast
            go_wp2_with fail
            go_roundw
            case rel => exact ⟨b' + 1, by omega, by have := HLE.out; omega, by have h := HNX.out; exact Lib.hid (by simpa using h), HBX, HRX, HTX⟩
            case measure =>
              have e1 := E1.out
              have e2 := E2.out
              simp only [List.getElem?_toArray, List.getElem?_cons_succ, List.getElem?_cons_zero] at e2
              rw [e1, e2]
              simp only [Option.getD_some, intOf]
              have := HLE.out
              omega
          | false =>
            have HADV : Hid (Adv had B b') := ⟨hb1, by have := HLE.out; omega, HTR.out, .inr HY.out⟩
            have HTH : Hid (World.there wr (w.heap.size + 1 + 1) 0 (#[.slice a1 T.length c1, .slice (some ⟨g, 0, none⟩) had.length c2, .int .i64 (b' : Int)] : Array Value).size) := there_row (cs := #[.slice none 0 0, .slice none 0 0, .int .i64 0]) HRW.out
            have HON := Lib.hid (sender_one a1 T.length c1 (some ⟨g, 0, none⟩) had.length c2 (b' : Int))
            have HIN : Hid ((Try.prog.info? 25).map (·.size) = some (#[.slice a1 T.length c1, .slice (some ⟨g, 0, none⟩) had.length c2, .int .i64 (b' : Int)] : Array Value).size) := HI.out
            go_wp2_with (with_reducible refine wpList_store_mid rfl 25 (.tmp 4) (.tmp 62) rfl (w.heap.size + 1 + 1) 0 #[.slice a1 T.length c1, .slice (some ⟨g, 0, none⟩) had.length c2, .int .i64 (b' : Int)] rfl rfl HTH.out HIN.out HON.out ?_)
            have hk1 : w.heap.size + 1 + 1 < w1.heap.size := by have := HSZ1.out; omega
            have hown1 := own_keep (w' := wr.setCells (w.heap.size + 1 + 1) 0 [.slice a1 T.length c1, .slice (some ⟨g, 0, none⟩) had.length c2, .int .i64 (b' : Int)]) HSR.out.1 fun g cs hg hB => heap_setCells_other _ _ (by omega) _ _ _
            have hown2 := own_keep (w' := wr.setCells (w.heap.size + 1 + 1) 0 [.slice a1 T.length c1, .slice (some ⟨g, 0, none⟩) had.length c2, .int .i64 (b' : Int)]) HSR.out.2.1 fun g cs hg hB => heap_setCells_other _ _ (by omega) _ _ _
            refine bodyPost_ret (results_row_tmp1 (p := 4) (q := 5) (ty := 25) rfl _ _ (w.heap.size + 1 + 1) 25 #[.slice a1 T.length c1, .slice (some ⟨g, 0, none⟩) had.length c2, .int .i64 (b' : Int)] (0, 0) _ rfl (setCells_full HRW.out #[.slice a1 T.length c1, .slice (some ⟨g, 0, none⟩) had.length c2, .int .i64 (b' : Int)] rfl) Try.underlying25 rfl HIN.out) rfl ?_
            have hH := HH2.out
            unfold HrEnd
            rw [hH]
            exact ⟨below_setCells (by omega) _ _ HBW.out, .inr ⟨HOK.out, a1, c1, (some ⟨g, 0, none⟩), c2, b', rfl, sat_own1 stC_length hown1, sat_own1 boC_length hown2, (nb_own hown1).mono (by omega), (nb_own hown2).mono (by omega), HADV.out⟩⟩
        · have n1 : ¬ ((b' : Int) < (had.length : Int)) := by omega
          have HADV : Hid (Adv had B b') := ⟨hb1, by have := HLE.out; omega, HTR.out, .inl (by have := HLE.out; omega)⟩
          have HTH : Hid (World.there wr (w.heap.size + 1 + 1) 0 (#[.slice a1 T.length c1, .slice a2 had.length c2, .int .i64 (b' : Int)] : Array Value).size) := there_row (cs := #[.slice none 0 0, .slice none 0 0, .int .i64 0]) HRW.out
          have HON := Lib.hid (sender_one a1 T.length c1 a2 had.length c2 (b' : Int))
          have HIN : Hid ((Try.prog.info? 25).map (·.size) = some (#[.slice a1 T.length c1, .slice a2 had.length c2, .int .i64 (b' : Int)] : Array Value).size) := HI.out
          go_wp2_with (with_reducible refine wpList_store_mid rfl 25 (.tmp 4) (.tmp 62) rfl (w.heap.size + 1 + 1) 0 #[.slice a1 T.length c1, .slice a2 had.length c2, .int .i64 (b' : Int)] rfl rfl HTH.out HIN.out HON.out ?_)
          have hk1 : w.heap.size + 1 + 1 < w1.heap.size := by have := HSZ1.out; omega
          have hown1 := own_keep (w' := wr.setCells (w.heap.size + 1 + 1) 0 [.slice a1 T.length c1, .slice a2 had.length c2, .int .i64 (b' : Int)]) HSR.out.1 fun g cs hg hB => heap_setCells_other _ _ (by omega) _ _ _
          have hown2 := own_keep (w' := wr.setCells (w.heap.size + 1 + 1) 0 [.slice a1 T.length c1, .slice a2 had.length c2, .int .i64 (b' : Int)]) HSR.out.2.1 fun g cs hg hB => heap_setCells_other _ _ (by omega) _ _ _
          refine bodyPost_ret (results_row_tmp1 (p := 4) (q := 5) (ty := 25) rfl _ _ (w.heap.size + 1 + 1) 25 #[.slice a1 T.length c1, .slice a2 had.length c2, .int .i64 (b' : Int)] (0, 0) _ rfl (setCells_full HRW.out #[.slice a1 T.length c1, .slice a2 had.length c2, .int .i64 (b' : Int)] rfl) Try.underlying25 rfl HIN.out) rfl ?_
          have hH := HH2.out
          unfold HrEnd
          rw [hH]
          exact ⟨below_setCells (by omega) _ _ HBW.out, .inr ⟨HOK.out, a1, c1, a2, c2, b', rfl, sat_own1 stC_length hown1, sat_own1 boC_length hown2, (nb_own hown1).mono (by omega), (nb_own hown2).mono (by omega), HADV.out⟩⟩
  · have f2 : (((c : Nat) : Int) != 0) = true := by simpa using hc0
    have HN : Hid (¬ SOk T had b) := fun h => hc0 (hc.2 h)
    have HC0 := Lib.hid hc0
    clear hc hc0
    have HTH : Hid (World.there w1 (w.heap.size + 1 + 1) 0 (#[.slice none 0 0, .slice none 0 0, .int .i64 0] : Array Value).size) := there_row HQ2.out
    have HON : Hid (((#[.slice none 0 0, .slice none 0 0, .int .i64 0] : Array Value).all (·.oneCell')) = true) := by show _ = _; kernel_rfl
    have HIZ : Hid ((Try.prog.info? 25).map (·.size) = some (#[.slice none 0 0, .slice none 0 0, .int .i64 0] : Array Value).size) := HI.out
    go_wp2_with (with_reducible refine wpList_store_mid rfl 25 (.tmp 4) (.tmp 12) rfl (w.heap.size + 1 + 1) 0 #[.slice none 0 0, .slice none 0 0, .int .i64 0] rfl rfl HTH.out HIZ.out HON.out ?_)
    refine bodyPost_ret (results_row_tmp1 (p := 4) (q := 5) (ty := 25) rfl _ _ (w.heap.size + 1 + 1) 25 #[.slice none 0 0, .slice none 0 0, .int .i64 0] (0, 0) _ rfl (setCells_full HQ2.out #[.slice none 0 0, .slice none 0 0, .int .i64 0] rfl) Try.underlying25 rfl HI.out) rfl ?_
    exact ⟨below_setCells (by omega) _ _ HB1.out, .inl ⟨HN.out, c, HC0.out, rfl⟩⟩
end Go.Proofs.Ytinjnclpiiohcaa
