/- Nodes in memory; what tree.Check asks. -/
import Derived.Test.YtinjnclpiiohcaaDoorTreePlain
import Derived.Test.YtinjnclpiiohcaaDoorPlace
import Derived.Test.YtinjnclpiiohcaaDoorNamesW
import Derived.Test.YtinjnclpiiohcaaDoorNumW
namespace Go.Proofs.YtinjnclpiiohcaaDoor
open Go.RowKit Plain
/-- a node: name, kind, mode, time, size, parts (where, how much room, which), link -/
abbrev MN := ByteArray × Int × Int × Int × Int × (Option Addr × Nat × List ID8) × ByteArray
def mnC (m : MN) : List Value := [.string m.1, .int .i64 m.2.1, .int .i64 m.2.2.1, .int .i64 m.2.2.2.1, .int .i64 m.2.2.2.2.1, .slice m.2.2.2.2.2.1.1 m.2.2.2.2.2.1.2.2.length m.2.2.2.2.2.1.2.1, .string m.2.2.2.2.2.2]
theorem mnC_length (m : MN) : (mnC m).length = 7 := rfl
def idC (t : ID8) : List Value := (idL t).map bV
theorem idC_length (t : ID8) : (idC t).length = 8 := rfl
def ndOf (m : MN) : Nd := (strN m.1, m.2.1, m.2.2.1, m.2.2.2.1, m.2.2.2.2.1, m.2.2.2.2.2.1.2.2.map idL, strN m.2.2.2.2.2.2)
/-- parts in memory -/
def PAt (w : World) (m : MN) : Prop := SAt 8 idC w m.2.2.2.2.2.1.1 m.2.2.2.2.2.1.2.2
def NAt (w : World) (a : Option Addr) (l : List MN) : Prop := SAt 7 mnC w a l ∧ ∀ m ∈ l, PAt w m
theorem NAt.below {w w' : World} {a : Option Addr} {l : List MN} (h : NAt w a l) (hb : Below w.heap.size w w') : NAt w' a l := ⟨h.1.below hb, fun m hm => (h.2 m hm).below hb⟩
/-- sizes of what came in -/
def MZ (m : MN) : Prop := m.1.size ≤ 4611686018427387904 ∧ m.2.2.2.2.2.1.2.2.length ≤ 9223372036854775807 ∧ m.2.2.2.2.2.2.size ≤ 9223372036854775807 ∧ ∀ p ∈ m.2.2.2.2.2.1.2.2, ∀ c ∈ idL p, c < 256
def fmd (m : MN) : Bool := if m.2.1 = 1 then decide (m.2.2.2.2.2.2.size = 0) else if m.2.1 = 2 then decide (m.2.2.2.2.2.1.2.2.length = 1) && (decide (m.2.2.2.2.1 = 0) && decide (m.2.2.2.2.2.2.size = 0)) else decide (m.2.2.2.2.2.2.size ≠ 0) && (decide (m.2.2.2.2.1 = 0) && decide (m.2.2.2.2.2.1.2.2.length = 0))
def knd (k : Int) : Bool := decide (1 ≤ k ∧ k ≤ 3)
/-- what Check asks of a node by itself -/
def NOk (m : MN) : Prop := chkB m.1 = 0 ∧ (0 ≤ m.2.2.1 ∧ m.2.2.1 ≤ 511) ∧ (0 ≤ m.2.2.2.2.1 ∧ m.2.2.2.2.1 ≤ 4096) ∧ m.2.2.2.2.2.1.2.2.length ≤ 300 ∧ knd m.2.1 = true ∧ fmd m = true ∧ m.2.2.2.2.2.2.size ≤ 1024
/-- a node's cells -/
theorem SAt.node {w : World} {a : Option Addr} {l : List MN} (h : SAt 7 mnC w a l) (i : Nat) (hi : i < l.length) (m : MN) (hm : l[i] = m) : ∃ g off, a = some ⟨g, off, none⟩ ∧ g < w.heap.size ∧
    w.cell? ⟨g, off + i * 7, none⟩ = some (.string m.1) ∧ w.cell? ⟨g, off + i * 7 + 1, none⟩ = some (.int .i64 m.2.1) ∧ w.cell? ⟨g, off + i * 7 + 2, none⟩ = some (.int .i64 m.2.2.1) ∧ w.cell? ⟨g, off + i * 7 + 3, none⟩ = some (.int .i64 m.2.2.2.1) ∧
    w.cell? ⟨g, off + i * 7 + 4, none⟩ = some (.int .i64 m.2.2.2.2.1) ∧ w.cell? ⟨g, off + i * 7 + 5, none⟩ = some (.slice m.2.2.2.2.2.1.1 m.2.2.2.2.2.1.2.2.length m.2.2.2.2.2.1.2.1) ∧ w.cell? ⟨g, off + i * 7 + 6, none⟩ = some (.string m.2.2.2.2.2.2) := by
  obtain ⟨g, off, e, hg, hr⟩ := h i hi
  subst hm
  exact ⟨g, off, e, hg, hr 0 _ rfl, hr 1 _ rfl, hr 2 _ rfl, hr 3 _ rfl, hr 4 _ rfl, hr 5 _ rfl, hr 6 _ rfl⟩
set_option maxRecDepth 100000 in
theorem tknown_any (k : Int) (w : World) : Calls Tryd.prog 47 #[.int .i64 k] w fun e w' => e = .returned (.bool (knd k)) ∧ w' = w := by
  by_cases h1 : 1 ≤ k
  · have f1 : decide (k ≥ 1) = true := decide_eq_true h1
    have HE : Hid (knd k = decide (k ≤ 3)) := by show _ = _; exact decide_eq_decide.2 ⟨fun h => h.2, fun h => ⟨h1, h⟩⟩
    go_enter Tryd.func47, Tryd.ntmps47
    go_wp2_with fail
    go_ret
    exact ⟨by rw [HE.out]; rfl, rfl⟩
  · have HE : Hid (knd k = false) := decide_eq_false fun h => h1 h.1
    go_enter Tryd.func47, Tryd.ntmps47
    go_wp2_with fail
    go_ret
    exact ⟨by rw [HE.out]; rfl, rfl⟩
set_option maxRecDepth 100000 in
set_option maxHeartbeats 2000000 in
theorem formed_any (n : ByteArray) (k md tm sz : Int) (a : Option Addr) (len cap : Nat) (lk : ByteArray) (b : Bool) (hb : b = if k = 1 then decide (lk.size = 0) else if k = 2 then decide (len = 1) && (decide (sz = 0) && decide (lk.size = 0)) else decide (lk.size ≠ 0) && (decide (sz = 0) && decide (len = 0))) (w : World) :
    Calls Tryd.prog 48 #[.agg #[.string n, .int .i64 k, .int .i64 md, .int .i64 tm, .int .i64 sz, .slice a len cap, .string lk]] w fun e w' => e = .returned (.bool b) ∧ Below w.heap.size w w' := by
  have HB := Lib.hid ((Below.refl w.heap.size w).alloc (Nat.le_refl _) (.cells #[.string n, .int .i64 k, .int .i64 md, .int .i64 tm, .int .i64 sz, .slice a len cap, .string lk] 73))
  by_cases hz : lk.size = 0
  · obtain rfl := str_nil_of' hz
    by_cases k1 : k = 1
    · subst k1
      have HV : Hid (b = true) := by show _ = _; rw [hb]; rfl
      clear hb hz
      go_enter Tryd.func48, Tryd.ntmps48
      go_wp2_with fail
      go_ret
      exact ⟨by rw [HV.out]; rfl, HB.out⟩
    · by_cases k2 : k = 2
      · subst k2
        by_cases hl : len = 1
        · subst hl
          by_cases hs : sz = 0
          · subst hs
            have HV : Hid (b = true) := by show _ = _; rw [hb]; rfl
            clear hb hz
            go_enter Tryd.func48, Tryd.ntmps48
            go_wp2_with fail
            go_ret
            exact ⟨by rw [HV.out]; rfl, HB.out⟩
          · have f1 : (sz == 0) = false := by simpa using hs
            have HV : Hid (b = false) := by show _ = _; rw [hb]; simp [hs]
            clear hb hz hs
            go_enter Tryd.func48, Tryd.ntmps48
            go_wp2_with fail
            go_ret
            exact ⟨by rw [HV.out]; rfl, HB.out⟩
        · have f1 : ((len : Int) == 1) = false := by simp; omega
          have HV : Hid (b = false) := by show _ = _; rw [hb]; simp [hl]
          clear hb hz hl
          go_enter Tryd.func48, Tryd.ntmps48
          go_wp2_with fail
          go_ret
          exact ⟨by rw [HV.out]; rfl, HB.out⟩
      · have f1 : (k == 1) = false := by simpa using k1
        have f2 : (k == 2) = false := by simpa using k2
        have HV : Hid (b = false) := by show _ = _; rw [hb, if_neg k1, if_neg k2, show decide ((⟨#[]⟩ : ByteArray).size ≠ 0) = false from rfl]; rfl
        clear hb hz k1 k2
        go_enter Tryd.func48, Tryd.ntmps48
        go_wp2_with fail
        go_ret
        exact ⟨by rw [HV.out]; rfl, HB.out⟩
  · have hne := isEmpty_false' hz
    by_cases k1 : k = 1
    · subst k1
      have HV : Hid (b = false) := by show _ = _; rw [hb]; simp [hz]
      clear hb hz
      go_enter Tryd.func48, Tryd.ntmps48
      go_wp2_with fail
      go_ret
      exact ⟨by rw [HV.out]; rfl, HB.out⟩
    · by_cases k2 : k = 2
      · subst k2
        have HV : Hid (b = false) := by show _ = _; rw [hb]; simp [hz]
        clear hb hz
        by_cases hl : len = 1
        · subst hl
          by_cases hs : sz = 0
          · subst hs
            go_enter Tryd.func48, Tryd.ntmps48
            go_wp2_with fail
            go_ret
            exact ⟨by rw [HV.out]; rfl, HB.out⟩
          · have f1 : (sz == 0) = false := by simpa using hs
            clear hs
            go_enter Tryd.func48, Tryd.ntmps48
            go_wp2_with fail
            go_ret
            exact ⟨by rw [HV.out]; rfl, HB.out⟩
        · have f1 : ((len : Int) == 1) = false := by simp; omega
          clear hl
          go_enter Tryd.func48, Tryd.ntmps48
          go_wp2_with fail
          go_ret
          exact ⟨by rw [HV.out]; rfl, HB.out⟩
      · have f1 : (k == 1) = false := by simpa using k1
        have f2 : (k == 2) = false := by simpa using k2
        by_cases hs : sz = 0
        · subst hs
          by_cases hl : len = 0
          · subst hl
            have HV : Hid (b = true) := by show _ = _; rw [hb, if_neg k1, if_neg k2]; simp [hz]
            clear hb hz k1 k2
            go_enter Tryd.func48, Tryd.ntmps48
            go_wp2_with fail
            go_ret
            exact ⟨by rw [HV.out]; rfl, HB.out⟩
          · have f3 : ((len : Int) == 0) = false := by simp; omega
            have HV : Hid (b = false) := by show _ = _; rw [hb, if_neg k1, if_neg k2]; simp [hl]
            clear hb hz k1 k2 hl
            go_enter Tryd.func48, Tryd.ntmps48
            go_wp2_with fail
            go_ret
            exact ⟨by rw [HV.out]; rfl, HB.out⟩
        · have f3 : (sz == 0) = false := by simpa using hs
          have HV : Hid (b = false) := by show _ = _; rw [hb, if_neg k1, if_neg k2]; simp [hs]
          clear hb hz k1 k2 hs
          go_enter Tryd.func48, Tryd.ntmps48
          go_wp2_with fail
          go_ret
          exact ⟨by rw [HV.out]; rfl, HB.out⟩
end Go.Proofs.YtinjnclpiiohcaaDoor
