/- Joined: IdCmp, Place, TreeMem, Det4, TreeNode0. -/
import Derived.Test.YtbfoonfbhebhfaaGreatDoorKGnI
import Derived.Laws.Externs
import Derived.Lib.BytesEntry
import Derived.Lib.Bytealg
import Derived.Test.YtbfoonfbhebhfaaGreatDoorRows
import Derived.WalkSpells
import Derived.WalkLawsBesides
import Derived.Deep.QuietTactic
import Derived.BigQuiet
import Derived.Test.YtbfoonfbhebhfaaGreatDoorKGnB
import Derived.Test.YtbfoonfbhebhfaaGreatDoorKGnH
import Derived.Test.YtbfoonfbhebhfaaGreatDoorKGnC
import Derived.Test.YtbfoonfbhebhfaaGreatDoorKGnK
import Derived.Test.YtbfoonfbhebhfaaGreatDoorKGnM
import Derived.Test.YtbfoonfbhebhfaaGreatDoorKGnN
import Derived.Test.YtbfoonfbhebhfaaGreatDoorKGnJ
namespace Go.Proofs.YtbfoonfbhebhfaaGreatDoor
open Go.RowKit
namespace Plain
end Plain
open Plain
def idV (b : Nat × Nat × Nat × Nat × Nat × Nat × Nat × Nat) : Value := .agg #[bV b.1, bV b.2.1, bV b.2.2.1, bV b.2.2.2.1, bV b.2.2.2.2.1, bV b.2.2.2.2.2.1, bV b.2.2.2.2.2.2.1, bV b.2.2.2.2.2.2.2]
def idL (b : Nat × Nat × Nat × Nat × Nat × Nat × Nat × Nat) : List Nat := [b.1, b.2.1, b.2.2.1, b.2.2.2.1, b.2.2.2.2.1, b.2.2.2.2.2.1, b.2.2.2.2.2.2.1, b.2.2.2.2.2.2.2]
end Go.Proofs.YtbfoonfbhebhfaaGreatDoor
namespace Go.Proofs.YtbfoonfbhebhfaaGreatDoor
open Go.RowKit Plain
abbrev ID8 := Nat × Nat × Nat × Nat × Nat × Nat × Nat × Nat
abbrev Pl := ID8 × Int × Int × Int × Int
namespace Plain
def kOk (k : Int) : Prop := 1 ≤ k ∧ k ≤ 3
def rOk (n : Int) : Prop := 0 ≤ n ∧ n ≤ 1099511627776
def pOk (p : Pl) : Prop := kOk p.2.1 ∧ rOk p.2.2.1 ∧ rOk p.2.2.2.1 ∧ rOk p.2.2.2.2
instance (k : Int) : Decidable (kOk k) := by unfold kOk; infer_instance
instance (k : Int) : Decidable (rOk k) := by unfold rOk; infer_instance
instance (p : Pl) : Decidable (pOk p) := by unfold pOk; infer_instance
end Plain
end Go.Proofs.YtbfoonfbhebhfaaGreatDoor
namespace Go.Proofs.YtbfoonfbhebhfaaGreatDoor
open Go.RowKit Plain
abbrev MN := ByteArray × Int × Int × Int × Int × (Option Addr × Nat × List ID8) × ByteArray
def mnC (m : MN) : List Value := [.string m.1, .int .i64 m.2.1, .int .i64 m.2.2.1, .int .i64 m.2.2.2.1, .int .i64 m.2.2.2.2.1, .slice m.2.2.2.2.2.1.1 m.2.2.2.2.2.1.2.2.length m.2.2.2.2.2.1.2.1, .string m.2.2.2.2.2.2]
theorem mnC_length (m : MN) : (mnC m).length = 7 := rfl
def idC (t : ID8) : List Value := (idL t).map bV
theorem idC_length (t : ID8) : (idC t).length = 8 := rfl
def ndOf (m : MN) : Nd := (strN m.1, m.2.1, m.2.2.1, m.2.2.2.1, m.2.2.2.2.1, m.2.2.2.2.2.1.2.2.map idL, strN m.2.2.2.2.2.2)
def PAt (w : World) (m : MN) : Prop := SAt 8 idC w m.2.2.2.2.2.1.1 m.2.2.2.2.2.1.2.2
def NAt (w : World) (a : Option Addr) (l : List MN) : Prop := SAt 7 mnC w a l ∧ ∀ m ∈ l, PAt w m
theorem NAt.below {w w' : World} {a : Option Addr} {l : List MN} (h : NAt w a l) (hb : Below w.heap.size w w') : NAt w' a l := ⟨h.1.below hb, fun m hm => (h.2 m hm).below hb⟩
def MZ (m : MN) : Prop := m.1.size ≤ 4611686018427387904 ∧ m.2.2.2.2.2.1.2.2.length ≤ 9223372036854775807 ∧ m.2.2.2.2.2.2.size ≤ 9223372036854775807 ∧ ∀ p ∈ m.2.2.2.2.2.1.2.2, ∀ c ∈ idL p, c < 256
def fmd (m : MN) : Bool := if m.2.1 = 1 then decide (m.2.2.2.2.2.2.size = 0) else if m.2.1 = 2 then decide (m.2.2.2.2.2.1.2.2.length = 1) && (decide (m.2.2.2.2.1 = 0) && decide (m.2.2.2.2.2.2.size = 0)) else decide (m.2.2.2.2.2.2.size ≠ 0) && (decide (m.2.2.2.2.1 = 0) && decide (m.2.2.2.2.2.1.2.2.length = 0))
def knd (k : Int) : Bool := decide (1 ≤ k ∧ k ≤ 3)
def NOk (m : MN) : Prop := chkB m.1 = 0 ∧ (0 ≤ m.2.2.1 ∧ m.2.2.1 ≤ 511) ∧ (0 ≤ m.2.2.2.2.1 ∧ m.2.2.2.2.1 ≤ 4096) ∧ m.2.2.2.2.2.1.2.2.length ≤ 300 ∧ knd m.2.1 = true ∧ fmd m = true ∧ m.2.2.2.2.2.2.size ≤ 1024
theorem SAt.node {w : World} {a : Option Addr} {l : List MN} (h : SAt 7 mnC w a l) (i : Nat) (hi : i < l.length) (m : MN) (hm : l[i] = m) : ∃ g off, a = some ⟨g, off, none⟩ ∧ g < w.heap.size ∧
  w.cell? ⟨g, off + i * 7, none⟩ = some (.string m.1) ∧ w.cell? ⟨g, off + i * 7 + 1, none⟩ = some (.int .i64 m.2.1) ∧ w.cell? ⟨g, off + i * 7 + 2, none⟩ = some (.int .i64 m.2.2.1) ∧ w.cell? ⟨g, off + i * 7 + 3, none⟩ = some (.int .i64 m.2.2.2.1) ∧
  w.cell? ⟨g, off + i * 7 + 4, none⟩ = some (.int .i64 m.2.2.2.2.1) ∧ w.cell? ⟨g, off + i * 7 + 5, none⟩ = some (.slice m.2.2.2.2.2.1.1 m.2.2.2.2.2.1.2.2.length m.2.2.2.2.2.1.2.1) ∧ w.cell? ⟨g, off + i * 7 + 6, none⟩ = some (.string m.2.2.2.2.2.2) := by
 obtain ⟨g, off, e, hg, hr⟩ := h i hi
 subst hm
 exact ⟨g, off, e, hg, hr 0 _ rfl, hr 1 _ rfl, hr 2 _ rfl, hr 3 _ rfl, hr 4 _ rfl, hr 5 _ rfl, hr 6 _ rfl⟩
set_option maxRecDepth 100000 in
theorem tknown_any (k : Int) (w : World) : Calls Tryz.prog 102 #[.int .i64 k] w fun e w' => e = .returned (.bool (knd k)) ∧ w' = w := by
 by_cases h1 : 1 ≤ k
 ·
  have f1 : decide (k ≥ 1) = true := decide_eq_true h1
  have HE : Hid (knd k = decide (k ≤ 3)) := by show _ = _; exact decide_eq_decide.2 ⟨fun h => h.2, fun h => ⟨h1, h⟩⟩
  go_enter Tryz.func102, Tryz.ntmps102
  go_wp2_with fail
  go_ret
  exact ⟨by rw [HE.out]; rfl, rfl⟩
 ·
  have HE : Hid (knd k = false) := decide_eq_false fun h => h1 h.1
  go_enter Tryz.func102, Tryz.ntmps102
  go_wp2_with fail
  go_ret
  exact ⟨by rw [HE.out]; rfl, rfl⟩
set_option maxRecDepth 100000 in
set_option maxHeartbeats 2000000 in
theorem formed_any (n : ByteArray) (k md tm sz : Int) (a : Option Addr) (len cap : Nat) (lk : ByteArray) (b : Bool) (hb : b = if k = 1 then decide (lk.size = 0) else if k = 2 then decide (len = 1) && (decide (sz = 0) && decide (lk.size = 0)) else decide (lk.size ≠ 0) && (decide (sz = 0) && decide (len = 0))) (w : World) :
  Calls Tryz.prog 121 #[.agg #[.string n, .int .i64 k, .int .i64 md, .int .i64 tm, .int .i64 sz, .slice a len cap, .string lk]] w fun e w' => e = .returned (.bool b) ∧ Below w.heap.size w w' := by
 have HB := Lib.hid ((Below.refl w.heap.size w).alloc (Nat.le_refl _) (.cells #[.string n, .int .i64 k, .int .i64 md, .int .i64 tm, .int .i64 sz, .slice a len cap, .string lk] 120))
 by_cases hz : lk.size = 0
 ·
  obtain rfl := str_nil_of' hz
  by_cases k1 : k = 1
  ·
   subst k1
   have HV : Hid (b = true) := by show _ = _; rw [hb]; rfl
   clear hb hz
   go_enter Tryz.func121, Tryz.ntmps121
   go_wp2_with fail
   go_ret
   exact ⟨by rw [HV.out]; rfl, HB.out⟩
  ·
   by_cases k2 : k = 2
   ·
    subst k2
    by_cases hl : len = 1
    ·
     subst hl
     by_cases hs : sz = 0
     ·
      subst hs
      have HV : Hid (b = true) := by show _ = _; rw [hb]; rfl
      clear hb hz
      go_enter Tryz.func121, Tryz.ntmps121
      go_wp2_with fail
      go_ret
      exact ⟨by rw [HV.out]; rfl, HB.out⟩
     ·
      have f1 : (sz == 0) = false := by simpa using hs
      have HV : Hid (b = false) := by show _ = _; rw [hb]; simp [hs]
      clear hb hz hs
      go_enter Tryz.func121, Tryz.ntmps121
      go_wp2_with fail
      go_ret
      exact ⟨by rw [HV.out]; rfl, HB.out⟩
    ·
     have f1 : ((len : Int) == 1) = false := by simp; omega
     have HV : Hid (b = false) := by show _ = _; rw [hb]; simp [hl]
     clear hb hz hl
     go_enter Tryz.func121, Tryz.ntmps121
     go_wp2_with fail
     go_ret
     exact ⟨by rw [HV.out]; rfl, HB.out⟩
   ·
    have f1 : (k == 1) = false := by simpa using k1
    have f2 : (k == 2) = false := by simpa using k2
    have HV : Hid (b = false) := by show _ = _; rw [hb, if_neg k1, if_neg k2, show decide ((⟨#[]⟩ : ByteArray).size ≠ 0) = false from rfl]; rfl
    clear hb hz k1 k2
    go_enter Tryz.func121, Tryz.ntmps121
    go_wp2_with fail
    go_ret
    exact ⟨by rw [HV.out]; rfl, HB.out⟩
 ·
  have hne := isEmpty_false' hz
  by_cases k1 : k = 1
  ·
   subst k1
   have HV : Hid (b = false) := by show _ = _; rw [hb]; simp [hz]
   clear hb hz
   go_enter Tryz.func121, Tryz.ntmps121
   go_wp2_with fail
   go_ret
   exact ⟨by rw [HV.out]; rfl, HB.out⟩
  ·
   by_cases k2 : k = 2
   ·
    subst k2
    have HV : Hid (b = false) := by show _ = _; rw [hb]; simp [hz]
    clear hb hz
    by_cases hl : len = 1
    ·
     subst hl
     by_cases hs : sz = 0
     ·
      subst hs
      go_enter Tryz.func121, Tryz.ntmps121
      go_wp2_with fail
      go_ret
      exact ⟨by rw [HV.out]; rfl, HB.out⟩
     ·
      have f1 : (sz == 0) = false := by simpa using hs
      clear hs
      go_enter Tryz.func121, Tryz.ntmps121
      go_wp2_with fail
      go_ret
      exact ⟨by rw [HV.out]; rfl, HB.out⟩
    ·
     have f1 : ((len : Int) == 1) = false := by simp; omega
     clear hl
     go_enter Tryz.func121, Tryz.ntmps121
     go_wp2_with fail
     go_ret
     exact ⟨by rw [HV.out]; rfl, HB.out⟩
   ·
    have f1 : (k == 1) = false := by simpa using k1
    have f2 : (k == 2) = false := by simpa using k2
    by_cases hs : sz = 0
    ·
     subst hs
     by_cases hl : len = 0
     ·
      subst hl
      have HV : Hid (b = true) := by show _ = _; rw [hb, if_neg k1, if_neg k2]; simp [hz]
      clear hb hz k1 k2
      go_enter Tryz.func121, Tryz.ntmps121
      go_wp2_with fail
      go_ret
      exact ⟨by rw [HV.out]; rfl, HB.out⟩
     ·
      have f3 : ((len : Int) == 0) = false := by simp; omega
      have HV : Hid (b = false) := by show _ = _; rw [hb, if_neg k1, if_neg k2]; simp [hl]
      clear hb hz k1 k2 hl
      go_enter Tryz.func121, Tryz.ntmps121
      go_wp2_with fail
      go_ret
      exact ⟨by rw [HV.out]; rfl, HB.out⟩
    ·
     have f3 : (sz == 0) = false := by simpa using hs
     have HV : Hid (b = false) := by show _ = _; rw [hb, if_neg k1, if_neg k2]; simp [hs]
     clear hb hz k1 k2 hs
     go_enter Tryz.func121, Tryz.ntmps121
     go_wp2_with fail
     go_ret
     exact ⟨by rw [HV.out]; rfl, HB.out⟩
end Go.Proofs.YtbfoonfbhebhfaaGreatDoor
namespace Go.Proofs.YtbfoonfbhebhfaaGreatDoor
open Go.RowKit
section
variable {P : Program} {ops : Array Oper} {Q Q' : Exit → Act → World → Prop} {md : Region.Mode} {S S2 : World → Prop}
theorem wpAnyH_strong (hS : ∀ w, S2 w → S w) : ∀ (fuel : Nat) (listed : Array Bool) (a : Act) (w : World), wpAnyH P md ops Q S2 fuel listed a w → wpAnyH P md ops Q S fuel listed a w
 | 0, _, _, _, h => h
 | fuel + 1, _, _, _, h => ⟨h.1, fun i hi => wpOp_mono (fun a' w' h' => ⟨hS w' h'.1, wpAnyH_strong hS fuel _ a' w' h'.2⟩) (h.2 i hi)⟩
theorem wpOp_monoQ (hQ : ∀ e a w, Q e a w → Q' e a w) {i : Nat} {K : Act → World → Prop} {a : Act} {w : World} (h : wpOp P ops Q i K a w) : wpOp P ops Q' i K a w := by
 have hl : LetsOut Q → LetsOut Q' := fun ⟨a, w, h⟩ => ⟨a, w, hQ _ _ _ h⟩
 unfold wpOp at *
 split
 ·
  rename_i ho; simpa [ho] using h
 ·
  rename_i o ho
  simp only [ho] at h
  split
  ·
   rename_i hw
   simp only [hw, if_true] at h
   refine h.imp (fun h => ?_) (fun h => ⟨h.1, hl h.2⟩)
   unfold Oper.wp at *
   generalize (execOp a.eval o).run P w = r at *
   cases r with
   | ok n w' =>
    cases n <;> simp only [Oper.upon] at h ⊢ <;>
     first
      | exact h
      | exact Calls.mono h (fun e w'' he => by cases e <;> first | exact he | exact hQ _ _ _ he | exact hl he)
   | halt x w' => cases x <;> simp only [Oper.upon] at h ⊢ <;> exact hQ _ _ _ h
  ·
   rename_i hw; simp only [hw] at h; exact h
theorem wpAny_monoQ (hQ : ∀ e a w, Q e a w → Q' e a w) : ∀ (fuel : Nat) (listed : Array Bool) (a : Act) (w : World), wpAny P md ops Q fuel listed a w → wpAny P md ops Q' fuel listed a w
 | 0, _, _, _, h => ⟨h.1, hQ _ _ _ h.2⟩
 | fuel + 1, _, _, _, h => ⟨fun hr => hQ _ _ _ (h.1 hr), fun i hi => wpOp_mono (fun a' w' h' => wpAny_monoQ hQ fuel _ a' w' h') (wpOp_monoQ hQ (h.2 i hi))⟩
def OnlyN (T : Act → World → Prop) (e : Exit) (a : Act) (w : World) : Prop := match e with
 | .normal => T a w
 | _ => False
theorem wp_region_mid {id : Nat} {a : Act} {w : World} (T : Act → World → Prop) (hm : P.follows .mixedOrders = true) (hT : ∀ a w, T a w → Q .normal a w)
  (h : wpAnyH P .any ops (OnlyN T) S ops.size (Array.replicate ops.size false) a w.drew) : (Code.region id ops true).wp P Q a w :=
 wp_region_any hm (wpAny_monoQ (fun e a w h => by cases e <;> first | exact hT _ _ h | exact h.elim) _ _ _ _ (wpAny_of_held _ _ _ _ h))
end
end Go.Proofs.YtbfoonfbhebhfaaGreatDoor
namespace Go.Proofs.YtbfoonfbhebhfaaGreatDoor
open Go.RowKit Plain
theorem nd_info : (Tryz.prog.info? 120).map (·.size) = some 7 := by kernel_rfl
theorem mnC_one (m : MN) : ∀ v ∈ mnC m, v.oneCell' = true := by
 intro v hv
 simp only [mnC, List.mem_cons, List.not_mem_nil, or_false] at hv
 rcases hv with rfl | rfl | rfl | rfl | rfl | rfl | rfl <;> rfl
theorem nd_one (m : MN) : (mnC m).toArray.all (·.oneCell') = true := all_oneCell_toArray (mnC_one m)
structure St1 (w : World) (R : Nat) (l : ByteArray) (e : Nat) (u : World) : Prop where
 rst : RSt u R l e
 bx : BX R w u
 row : u.heap[w.heap.size]? = some (.cells #[.string ⟨#[]⟩, .int .i64 0, .int .i64 0, .int .i64 0, .int .i64 0, .slice none 0 0, .string ⟨#[]⟩] 120 (0, 0))
theorem St1.lt {w u : World} {R : Nat} {l : ByteArray} {e : Nat} (h : St1 w R l e u) (hR : R < w.heap.size) : R < u.heap.size := Nat.lt_of_lt_of_le hR h.bx.1.size
theorem St1.call {w u u' : World} {R : Nat} {l l' : ByteArray} {e e' : Nat} (h : St1 w R l e u) (hR : R < w.heap.size) (hr : RSt u' R l' e') (hb : BX R u u') : St1 w R l' e' u' := ⟨hr, h.bx.trans hb, hb.block (by omega) h.row⟩
structure St2 (w : World) (R : Nat) (l : ByteArray) (e : Nat) (m : MN) (N : Nat) (u : World) : Prop where
 rst : RSt u R l e
 bx : BX R w u
 row : u.heap[w.heap.size]? = some (.cells #[.string ⟨#[]⟩, .int .i64 0, .int .i64 0, .int .i64 0, .int .i64 0, .slice none 0 0, .string ⟨#[]⟩] 120 (0, 0))
 hN : w.heap.size < N
 node : u.heap[N]? = some (.cells (mnC m).toArray 120 (0, 0))
def zMN : MN := (⟨#[]⟩, 0, 0, 0, 0, (none, 0, []), ⟨#[]⟩)
theorem St2.lt {w u : World} {R N : Nat} {l : ByteArray} {e : Nat} {m : MN} (h : St2 w R l e m N u) (hR : R < w.heap.size) : R < u.heap.size := Nat.lt_of_lt_of_le hR h.bx.1.size
theorem St2.call {w u u' : World} {R N : Nat} {l l' : ByteArray} {e e' : Nat} {m : MN} (h : St2 w R l e m N u) (hR : R < w.heap.size) (hr : RSt u' R l' e') (hb : BX R u u') : St2 w R l' e' m N u' := ⟨hr, h.bx.trans hb, hb.block (by omega) h.row, h.hN, hb.block (by have := h.hN; omega) h.node⟩
theorem St1.alloc {w u : World} {R : Nat} {l : ByteArray} {e : Nat} (h : St1 w R l e u) : St2 w R l e zMN u.heap.size (u.alloc (.cells #[.string ⟨#[]⟩, .int .i64 0, .int .i64 0, .int .i64 0, .int .i64 0, .slice none 0 0, .string ⟨#[]⟩] 120)) :=
 ⟨h.rst.below ((Below.refl _ _).alloc (Nat.le_refl _) _), h.bx.alloc _, (Below.heap_alloc u _ _ (lt_of_block h.row)).trans h.row, lt_of_block h.row, heap_alloc_new u _⟩
theorem St2.there {w u : World} {R N : Nat} {l : ByteArray} {e : Nat} {m : MN} (h : St2 w R l e m N u) : u.there N 0 7 := there_row h.node
theorem St2.other {w u : World} {R N : Nat} {l : ByteArray} {e : Nat} {m : MN} (_ : St2 w R l e m N u) {g : Nat} (hg : g ≠ N) (vs : List Value) : (u.setCells N 0 vs).heap[g]? = u.heap[g]? := heap_setCells_other _ _ hg _ _ _
theorem bx_setCells {R : Nat} {a b : World} {N : Nat} (h : BX R a b) (hN : a.heap.size ≤ N) (vs : List Value) : BX R a (b.setCells N 0 vs) := by
 have h1 := below_setCells (Nat.zero_le N) vs 0 h.1
 exact ⟨h1, fun k hk hne => (heap_setCells_other _ _ (by omega) _ _ _).trans (h.2 k hk hne)⟩
theorem St2.store {w u : World} {R N : Nat} {l : ByteArray} {e : Nat} {m : MN} (h : St2 w R l e m N u) (m' : MN) (hR : R < w.heap.size) : St2 w R l e m' N (u.setCells N 0 (mnC m').toArray.toList) := by
 have hN := h.hN
 refine ⟨(heap_setCells_other _ _ (by omega) _ _ _).trans h.rst, bx_setCells h.bx (by omega) _, (heap_setCells_other _ _ (by omega) _ _ _).trans h.row, hN, setCells_full h.node _ rfl⟩
theorem range_bx {R : Nat} {u u' : World} {g : Nat} {cs : List Value} (hb : BX R u u') (hg : g < u.heap.size) (hne : g ≠ R) (h : u.rangeAt g 0 cs) : u'.rangeAt g 0 cs := range_other h (hb.2 g hg hne)
def PF {α : Type} (p : List Nat → Option (α × List Nat)) (z : α) (l : ByteArray) (e : Nat) (a : α) (l' : ByteArray) (e' : Nat) : Prop := (e = 0 ∧ p (strN l) = some (a, strN l') ∧ e' = 0) ∨ ((e ≠ 0 ∨ p (strN l) = none) ∧ a = z ∧ e' ≠ 0)
def BF (l : ByteArray) (e n : Nat) (x : List Nat) (l' : ByteArray) (e' : Nat) : Prop := (e = 0 ∧ strN l = x ++ strN l' ∧ e' = 0) ∨ ((e ≠ 0 ∨ l.size < n) ∧ e' ≠ 0)
theorem own_setCellsB {w : World} {base : Nat} {e : TypeId} {k : Nat} {v : Value} {n : Nat} {xs : List Value} (h : w.ownsRow base e k v n xs) {B : Nat} (hB : v.ownBlock ≠ some B) (vs : List Value) : (w.setCells B 0 vs).ownsRow base e k v n xs := by
 refine ⟨h.1, ?_⟩
 rcases h.2 with hv | ⟨g, cap, cur, hv, h1, h2, h3⟩
 ·
  exact .inl hv
 ·
  exact .inr ⟨g, cap, cur, hv, h1, (heap_setCells_other _ _ (fun e => hB (by rw [hv, ← e]; rfl)) _ _ _).trans h2, h3⟩
def Mid (w : World) (R : Nat) (l : ByteArray) (e : Nat) (a : Act) (u : World) : Prop :=
 ∃ (N : Nat) (x1 : List Nat) (c2 n3 : Nat) (t4 : Int) (s5 g cp : Nat) (l1 l2 l3 l4 l5 : ByteArray) (e1 e2 e3 e4 e5 : Nat), a = ⟨#[.pointer (some ⟨R, 0, none⟩), undef, .pointer (some ⟨w.heap.size, 0, none⟩), .pointer (some ⟨N, 0, none⟩), .pointer (some ⟨R, 0, none⟩), .string (strOf x1), .pointer (some ⟨R, 0, none⟩), .slice (some ⟨g, 0, none⟩) 1 cp, .pointer (some ⟨g, 0, none⟩), .int .u8 (c2 : Int), .int .i64 (c2 : Int), .pointer (some ⟨R, 0, none⟩), .int .i64 (n3 : Int), .pointer (some ⟨R, 0, none⟩), .int .i64 t4, .pointer (some ⟨R, 0, none⟩), .int .i64 (s5 : Int), .agg #[.string (strOf x1), .int .i64 (c2 : Int), .int .i64 (n3 : Int), .int .i64 t4, .int .i64 (s5 : Int), .slice none 0 0, .string ⟨#[]⟩], undef, undef, undef, undef, undef, undef, undef, undef, undef, undef, undef, undef, undef, undef, undef, undef, undef, undef], []⟩ ∧
  St2 w R l5 e5 (strOf x1, (c2 : Int), (n3 : Int), t4, (s5 : Int), (none, 0, []), ⟨#[]⟩) N u ∧ l5.size ≤ l.size ∧ PF getT [] l e x1 l1 e1 ∧ BF l1 e1 1 [c2] l2 e2 ∧ PF (pNum 511) 0 l2 e2 n3 l3 e3 ∧ PF pInt 0 l3 e3 t4 l4 e4 ∧ PF (pNum 4096) 0 l4 e4 s5 l5 e5
theorem bx_setCell {R : Nat} {a b : World} {N : Nat} (h : BX R a b) (hN : a.heap.size ≤ N) (i : Nat) (v : Value) : BX R a (b.setCell ⟨N, i, none⟩ v) :=
 ⟨h.1.setCell (Nat.zero_le _) v, fun k hk hne => (Below.heap_setCell _ _ _ _ (by show k ≠ N; omega)).trans (h.2 k hk hne)⟩
theorem own_ne {w : World} {base : Nat} {t t' : TypeId} {k : Nat} {v : Value} {n : Nat} {xs : List Value} {B : Nat} {C : Array Value} {fr : Nat × Nat} (h : w.ownsRow base t k v n xs) (hB : w.heap[B]? = some (.cells C t' fr)) (ht : t ≠ t') : v.ownBlock ≠ some B := by
 rcases h.2 with ⟨hv, _⟩ | ⟨g, cap, cur, hv, _, hg, _⟩
 ·
  rw [hv]; intro e; cases e
 ·
  rw [hv]
  intro e
  have e2 : g = B := by injection e
  rw [e2, hB] at hg
  injection hg with hg
  injection hg with _ h2 _
  exact ht h2.symm
theorem St2.set5 {w u : World} {R N : Nat} {l : ByteArray} {e : Nat} {n lk : ByteArray} {k md tm sz : Int} {pa pa' : Option Addr} {pc pc' : Nat} {ps ps' : List ID8} (h : St2 w R l e (n, k, md, tm, sz, (pa, pc, ps), lk) N u) (hR : R < w.heap.size) : St2 w R l e (n, k, md, tm, sz, (pa', pc', ps'), lk) N (u.setCell ⟨N, 5, none⟩ (.slice pa' ps'.length pc')) := by
 have hN := h.hN
 exact ⟨(Below.heap_setCell _ _ _ _ (by show R ≠ N; omega)).trans h.rst, bx_setCell h.bx (by omega) _ _, (Below.heap_setCell _ _ _ _ (by show w.heap.size ≠ N; omega)).trans h.row, hN, rst_set h.node 5 _⟩
theorem St2.set6 {w u : World} {R N : Nat} {l : ByteArray} {e : Nat} {n lk lk' : ByteArray} {k md tm sz : Int} {pa : Option Addr} {pc : Nat} {ps : List ID8} (h : St2 w R l e (n, k, md, tm, sz, (pa, pc, ps), lk) N u) (hR : R < w.heap.size) : St2 w R l e (n, k, md, tm, sz, (pa, pc, ps), lk') N (u.setCell ⟨N, 6, none⟩ (.string lk')) := by
 have hN := h.hN
 exact ⟨(Below.heap_setCell _ _ _ _ (by show R ≠ N; omega)).trans h.rst, bx_setCell h.bx (by omega) _ _, (Below.heap_setCell _ _ _ _ (by show w.heap.size ≠ N; omega)).trans h.row, hN, rst_set h.node 6 _⟩
theorem St2.grown {w u u' : World} {R N : Nat} {l : ByteArray} {e : Nat} {m : MN} {ob : Option Nat} (h : St2 w R l e m N u) (hg : u.grownBy u' ob) (h1 : ob ≠ some R) (h2 : ob ≠ some N) (h3 : ob ≠ some w.heap.size) (hb : ∀ k, ob = some k → w.heap.size ≤ k) : St2 w R l e m N u' := by
 have hsz := h.bx.1.size
 refine ⟨(hg.block R (lt_of_block h.rst) (fun e => h1 e.symm)).trans h.rst, ⟨⟨hg.os.trans h.bx.1.os, hg.tape.trans h.bx.1.tape, hg.output.trans h.bx.1.output, Nat.le_trans hsz hg.size, fun k hk => absurd hk (Nat.not_lt_zero _)⟩, fun k hk hne => (hg.block k (by omega) (fun e => ?_)).trans (h.bx.2 k hk hne)⟩, (hg.block _ (lt_of_block h.row) (fun e => h3 e.symm)).trans h.row, h.hN, (hg.block N (lt_of_block h.node) (fun e => h2 e.symm)).trans h.node⟩
 have := hb k e.symm
 omega
theorem St2.alloc {w u : World} {R N : Nat} {l : ByteArray} {e : Nat} {m : MN} (h : St2 w R l e m N u) (o : Obj) : St2 w R l e m N (u.alloc o) :=
 ⟨h.rst.below ((Below.refl _ _).alloc (Nat.le_refl _) _), h.bx.alloc _, (Below.heap_alloc u _ _ (lt_of_block h.row)).trans h.row, h.hN, (Below.heap_alloc u _ _ (lt_of_block h.node)).trans h.node⟩
theorem info_id : ∃ i, Tryz.prog.info? 30 = some i ∧ i.zero = some (.agg (idC (0, 0, 0, 0, 0, 0, 0, 0)).toArray) ∧ i.size = 8 ∧ i.bytes = 8 := info_parts (by kernel_rfl)
theorem getT_lt {s t r : List Nat} (hs : ∀ c ∈ s, c < 256) (h : getT s = some (t, r)) : ∀ c ∈ t, c < 256 := by
 obtain ⟨_, e⟩ := getT_back h
 have key : ∀ t : List Nat, (∀ c ∈ esc t, c < 256) → ∀ c ∈ t, c < 256 := by
  intro t
  induction t with
  | nil => intro _ c hc; cases hc
  | cons a t ih =>
   intro h c hc
   rcases List.mem_cons.1 hc with rfl | hc
   ·
    cases c with
    | zero => decide
    | succ c => exact h _ (by simp [esc])
   ·
    exact ih (fun d hd => h d (by cases a <;> simp [esc, hd])) c hc
 exact key t (fun c hc => hs c (by rw [e, putT]; simp [hc]))
def IDS (l6 : ByteArray) (e6 : Nat) (n : Nat) (ps : List ID8) (lj : ByteArray) (ej : Nat) : Prop := (e6 = 0 ∧ ej = 0 ∧ strN l6 = (ps.map idL).flatten ++ strN lj) ∨ (ej ≠ 0 ∧ (e6 ≠ 0 ∨ l6.size < 8 * n))
theorem ids_flat_length (ps : List ID8) : ((ps.map idL).flatten).length = 8 * ps.length := by
 induction ps with
 | nil => rfl
 | cons p ps ih => rw [List.map_cons, List.flatten_cons, List.length_append, ih, List.length_cons]; simp [idL]; omega
theorem IDS.next {l6 lj l' : ByteArray} {e6 ej e' n : Nat} {ps : List ID8} {x : ID8} (h : IDS l6 e6 n ps lj ej) (hn : ps.length < n) (hb : BF lj ej 8 (idL x) l' e') : IDS l6 e6 n (ps ++ [x]) l' e' := by
 rcases h with ⟨h1, h2, h3⟩ | ⟨h1, h2⟩
 ·
  rcases hb with ⟨_, b2, b3⟩ | ⟨b1, b2⟩
  ·
   exact .inl ⟨h1, b3, by rw [h3, b2]; simp⟩
  ·
   refine .inr ⟨b2, .inr ?_⟩
   rcases b1 with b1 | b1
   ·
    exact absurd h2 b1
   ·
    have := congrArg List.length h3
    rw [List.length_append, ids_flat_length, strN_length, strN_length] at this
    omega
 ·
  rcases hb with ⟨b1, _, _⟩ | ⟨_, b2⟩
  ·
   exact absurd b1 h1
  ·
   exact .inr ⟨b2, h2⟩
theorem node_fin {l l1 l2 l3 l4 l5 l6 l7 l8 : ByteArray} {e e1 e2 e3 e4 e5 e6 e7 e8 : Nat} {x1 x8 : List Nat} {c2 n3 s5 n6 : Nat} {t4 : Int} {ps : List ID8} {pa : Option Addr} {pc : Nat}
  (h1 : PF getT [] l e x1 l1 e1) (h2 : BF l1 e1 1 [c2] l2 e2) (h3 : PF (pNum 511) 0 l2 e2 n3 l3 e3) (h4 : PF pInt 0 l3 e3 t4 l4 e4) (h5 : PF (pNum 4096) 0 l4 e4 s5 l5 e5) (h6 : PF (pNum 300) 0 l5 e5 n6 l6 e6) (h7 : IDS l6 e6 n6 ps l7 e7) (hps : ps.length = n6) (h8 : PF getT [] l7 e7 x8 l8 e8) :
  (e = 0 ∧ pNode (strN l) = some (ndOf (strOf x1, (c2 : Int), (n3 : Int), t4, (s5 : Int), (pa, pc, ps), strOf x8), strN l8) ∧ e8 = 0) ∨ ((e ≠ 0 ∨ pNode (strN l) = none) ∧ e8 ≠ 0) := by
 have bad : ∀ {α : Type} {p : List Nat → Option (α × List Nat)} {z : α} {l : ByteArray} {e : Nat} {a : α} {l' : ByteArray} {e' : Nat}, PF p z l e a l' e' → e ≠ 0 → e' ≠ 0 := fun h he => by
  rcases h with ⟨h, _⟩ | ⟨_, _, h⟩
  ·
   exact absurd h he
  ·
   exact h
 have badB : ∀ {l : ByteArray} {e n : Nat} {x : List Nat} {l' : ByteArray} {e' : Nat}, BF l e n x l' e' → e ≠ 0 → e' ≠ 0 := fun h he => by
  rcases h with ⟨h, _⟩ | ⟨_, h⟩
  ·
   exact absurd h he
  ·
   exact h
 have badI : e6 ≠ 0 → e7 ≠ 0 := fun he => by
  rcases h7 with ⟨h, _⟩ | ⟨h, _⟩
  ·
   exact absurd h he
  ·
   exact h
 have f6 : e6 ≠ 0 → e8 ≠ 0 := fun h => bad h8 (badI h)
 have f5 : e5 ≠ 0 → e8 ≠ 0 := fun h => f6 (bad h6 h)
 have f4 : e4 ≠ 0 → e8 ≠ 0 := fun h => f5 (bad h5 h)
 have f3 : e3 ≠ 0 → e8 ≠ 0 := fun h => f4 (bad h4 h)
 have f2 : e2 ≠ 0 → e8 ≠ 0 := fun h => f3 (bad h3 h)
 have f1 : e1 ≠ 0 → e8 ≠ 0 := fun h => f2 (badB h2 h)
 unfold pNode
 rcases h1 with ⟨z0, p1, z1⟩ | ⟨b1, _, n1⟩
 ·
  have x1l := getT_lt (strN_lt l) p1
  rw [p1]
  simp only
  rcases h2 with ⟨_, p2, z2⟩ | ⟨b2, n2⟩
  ·
   rw [show strN l1 = c2 :: strN l2 from p2]
   simp only
   rcases h3 with ⟨_, p3, z3⟩ | ⟨b3, _, n3'⟩
   ·
    rw [p3]
    simp only
    rcases h4 with ⟨_, p4, z4⟩ | ⟨b4, _, n4⟩
    ·
     rw [p4]
     simp only
     rcases h5 with ⟨_, p5, z5⟩ | ⟨b5, _, n5⟩
     ·
      rw [p5]
      simp only
      rcases h6 with ⟨_, p6, z6⟩ | ⟨b6, _, n6'⟩
      ·
       rw [p6]
       simp only
       have hlen : (ps.map idL).length = n6 := by rw [List.length_map, hps]
       rcases h7 with ⟨_, z7, p7⟩ | ⟨n7, b7⟩
       ·
        have hpi : pIds n6 (strN l6) = some (ps.map idL, strN l7) := by
         have hfl := ids_flat_length ps
         unfold pIds
         rw [if_neg (by rw [p7, List.length_append]; omega), p7, ← hlen, ids_of _ _ (fun p hp => by
          simp only [List.mem_map] at hp
          obtain ⟨q, _, rfl⟩ := hp
          rfl), hlen, ← hps, ← hfl, List.drop_left]
        rw [hpi]
        simp only
        rcases h8 with ⟨_, p8, z8⟩ | ⟨b8, _, n8⟩
        ·
         have x8l := getT_lt (strN_lt l7) p8
         rw [p8]
         simp only
         refine .inl ⟨z0, ?_, z8⟩
         simp only [ndOf, strN_strOf x1 x1l, strN_strOf x8 x8l]
        ·
         rcases b8 with b8 | b8
         ·
          exact absurd z7 b8
         ·
          rw [b8]; exact .inr ⟨.inr rfl, n8⟩
       ·
        have hpi : pIds n6 (strN l6) = none := by
         rcases b7 with b7 | b7
         ·
          exact absurd z6 b7
         ·
          unfold pIds
          rw [if_pos (by rw [strN_length]; exact b7)]
        rw [hpi]
        exact .inr ⟨.inr rfl, bad h8 n7⟩
      ·
       rcases b6 with b6 | b6
       ·
        exact absurd z5 b6
       ·
        rw [b6]; exact .inr ⟨.inr rfl, f6 n6'⟩
     ·
      rcases b5 with b5 | b5
      ·
       exact absurd z4 b5
      ·
       rw [b5]; exact .inr ⟨.inr rfl, f5 n5⟩
    ·
     rcases b4 with b4 | b4
     ·
      exact absurd z3 b4
     ·
      rw [b4]; exact .inr ⟨.inr rfl, f4 n4⟩
   ·
    rcases b3 with b3 | b3
    ·
     exact absurd z2 b3
    ·
     rw [b3]; exact .inr ⟨.inr rfl, f3 n3'⟩
  ·
   rcases b2 with b2 | b2
   ·
    exact absurd z1 b2
   ·
    have : strN l1 = [] := List.eq_nil_of_length_eq_zero (by rw [strN_length]; omega)
    rw [this]
    exact .inr ⟨.inr rfl, f2 n2⟩
 ·
  rcases b1 with b1 | b1
  ·
   exact .inr ⟨.inl b1, f1 n1⟩
  ·
   rw [b1]; exact .inr ⟨.inr rfl, f1 n1⟩
end Go.Proofs.YtbfoonfbhebhfaaGreatDoor
