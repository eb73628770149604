/- Joined: IdCmp, Place, TreeMem, Det4. -/
import Derived.Test.YtpfmfigommmjiaaDoorToAG
import Derived.Laws.Externs
import Derived.Lib.BytesEntry
import Derived.Lib.Bytealg
import Derived.Test.YtpfmfigommmjiaaDoorRows
import Derived.WalkSpells
import Derived.WalkLawsBesides
import Derived.Deep.QuietTactic
import Derived.BigQuiet
import Derived.Test.YtpfmfigommmjiaaDoorToAA
import Derived.Test.YtpfmfigommmjiaaDoorToAD
import Derived.Test.YtpfmfigommmjiaaDoorToAI
import Derived.Test.YtpfmfigommmjiaaDoorToAN
namespace Go.Proofs.YtpfmfigommmjiaaDoor
open Go.RowKit
namespace Plain
/-- how two lists of bytes stand to each other -/
def cmpN : List Nat → List Nat → Int
  | [], [] => 0
  | [], _ :: _ => -1
  | _ :: _, [] => 1
  | a :: x, b :: y => if a < b then -1 else if b < a then 1 else cmpN x y
theorem cmpN_self : ∀ l : List Nat, cmpN l l = 0
  | [] => rfl
  | a :: l => by rw [cmpN, if_neg (Nat.lt_irrefl a), if_neg (Nat.lt_irrefl a), cmpN_self l]
theorem cmpN_zero : ∀ l m : List Nat, cmpN l m = 0 ↔ l = m
  | [], [] => by simp [cmpN]
  | [], _ :: _ => by simp [cmpN]
  | _ :: _, [] => by simp [cmpN]
  | a :: x, b :: y => by
    have ih := cmpN_zero x y
    rw [cmpN]
    by_cases h1 : a < b
    · rw [if_pos h1]
      constructor
      · intro h; omega
      · intro h
        injection h with h _
        omega
    · by_cases h2 : b < a
      · rw [if_neg h1, if_pos h2]
        constructor
        · intro h; omega
        · intro h
          injection h with h _
          omega
      · rw [if_neg h1, if_neg h2, ih]
        obtain rfl : a = b := by omega
        simp
theorem cmpN_neg : ∀ l m : List Nat, cmpN m l = - cmpN l m
  | [], [] => rfl
  | [], _ :: _ => rfl
  | _ :: _, [] => rfl
  | a :: x, b :: y => by
    have ih := cmpN_neg x y
    rw [cmpN, cmpN]
    by_cases h1 : a < b
    · have h2 : ¬ b < a := by omega
      simp [h1, h2]
    · by_cases h2 : b < a
      · simp [h1, h2]
      · simp [h1, h2, ih]
theorem cmpN_trans : ∀ l m n : List Nat, cmpN l m < 0 → cmpN m n < 0 → cmpN l n < 0
  | [], [], _, h, _ => by simp [cmpN] at h
  | [], _ :: _, [], _, h => by simp [cmpN] at h
  | [], _ :: _, _ :: _, _, _ => by simp [cmpN]
  | _ :: _, [], _, h, _ => by simp [cmpN] at h
  | _ :: _, _ :: _, [], _, h => by simp [cmpN] at h
  | a :: x, b :: y, c :: z, h1, h2 => by
    have ih := cmpN_trans x y z
    rw [cmpN] at h1 h2 ⊢
    by_cases e1 : a < b
    · by_cases e2 : b < c
      · rw [if_pos (by omega)]; omega
      · rw [if_neg e2] at h2
        by_cases e3 : c < b
        · rw [if_pos e3] at h2; omega
        · rw [if_pos (by omega)]; omega
    · rw [if_neg e1] at h1
      by_cases e4 : b < a
      · rw [if_pos e4] at h1; omega
      · rw [if_neg e4] at h1
        obtain rfl : a = b := by omega
        by_cases e2 : a < c
        · rw [if_pos e2]; omega
        · rw [if_neg e2] at h2 ⊢
          by_cases e3 : c < a
          · rw [if_pos e3] at h2; omega
          · rw [if_neg e3] at h2 ⊢
            exact ih h1 h2
theorem cmpN_bytes : ∀ l m : List Nat, (∀ c ∈ l, c < 256) → (∀ c ∈ m, c < 256) → Lib.compareBytes (l.map UInt8.ofNat) (m.map UInt8.ofNat) = cmpN l m
  | [], [], _, _ => rfl
  | [], _ :: _, _, _ => rfl
  | _ :: _, [], _, _ => rfl
  | a :: x, b :: y, h1, h2 => by
    have ih := cmpN_bytes x y (fun c hc => h1 c (List.mem_cons_of_mem _ hc)) (fun c hc => h2 c (List.mem_cons_of_mem _ hc))
    have ha := h1 a (by simp)
    have hb := h2 b (by simp)
    have e : ∀ p q : Nat, p < 256 → q < 256 → ((UInt8.ofNat p < UInt8.ofNat q) ↔ p < q) := fun p q hp hq => by
      rw [UInt8.lt_iff_toNat_lt, UInt8.toNat_ofNat', UInt8.toNat_ofNat', Nat.mod_eq_of_lt hp, Nat.mod_eq_of_lt hq]
    simp only [List.map_cons, Lib.compareBytes, cmpN, ih]
    by_cases e1 : a < b
    · rw [if_pos e1, if_pos ((e a b ha hb).2 e1)]
    · rw [if_neg e1, if_neg (fun h => e1 ((e a b ha hb).1 h))]
      by_cases e2 : b < a
      · rw [if_pos e2, if_pos ((e b a hb ha).2 e2)]
      · rw [if_neg e2, if_neg (fun h => e2 ((e b a hb ha).1 h))]
end Plain
open Plain
theorem run_bytesOf_row {P : Program} {w : World} {g : Nat} {t : TypeId} {l : List Nat} (h : w.heap[g]? = some (.cells (l.map bV).toArray t (0, 0))) (cap : Nat) :
    (Extern.Bytes.bytesOf (.slice (some ⟨g, 0, none⟩) l.length cap)).run P w = .ok (strOf l) w := by
  have hc : ∀ j x, (l.map fun n : Nat => (n : Int))[j]? = some x → w.cell? ((⟨g, 0, none⟩ : Addr).add j) = some (.int .u8 x) := by
    intro j x hx
    have e : ((⟨g, 0, none⟩ : Addr).add j) = ⟨g, j, none⟩ := by
      unfold Addr.add
      split
      · rename_i h; subst h; rfl
      · simp
    rw [e, cell_of_row _ _ _ _ _ _ h]
    rw [List.getElem?_map] at hx
    cases hj : l[j]? with
    | none => rw [hj] at hx; cases hx
    | some c =>
      rw [hj] at hx
      have hx' : (c : Int) = x := by simpa using hx
      subst hx'
      simp [hj, bV]
  have := Go.Lib.run_loadBytesX (P := P) w (l.map fun n : Nat => (n : Int)) ⟨g, 0, none⟩ .empty hc
  rw [List.length_map] at this
  have e : (⟨ByteArray.empty.data ++ (Go.Lib.bytesOf (l.map fun n : Nat => (n : Int))).toArray⟩ : ByteArray) = strOf l := by
    show (⟨#[] ++ (Go.Lib.bytesOf (l.map fun n : Nat => (n : Int))).toArray⟩ : ByteArray) = ⟨(l.map UInt8.ofNat).toArray⟩
    rw [Array.empty_append]
    unfold Go.Lib.bytesOf
    rw [List.map_map]
    rfl
  rw [e] at this
  exact this
theorem heap_two' (w : World) (o1 o2 : Obj) : ((w.alloc o1).alloc o2).heap[w.heap.size]? = some o1 ∧ ((w.alloc o1).alloc o2).heap[w.heap.size + 1]? = some o2 := by
  constructor
  · exact (Below.heap_alloc (w.alloc o1) o2 w.heap.size (by simp)).trans (heap_alloc_new w o1)
  · have := heap_alloc_new (w.alloc o1) o2
    simpa using this
def idV (b : Nat × Nat × Nat × Nat × Nat × Nat × Nat × Nat) : Value := .agg #[bV b.1, bV b.2.1, bV b.2.2.1, bV b.2.2.2.1, bV b.2.2.2.2.1, bV b.2.2.2.2.2.1, bV b.2.2.2.2.2.2.1, bV b.2.2.2.2.2.2.2]
def idL (b : Nat × Nat × Nat × Nat × Nat × Nat × Nat × Nat) : List Nat := [b.1, b.2.1, b.2.2.1, b.2.2.2.1, b.2.2.2.2.1, b.2.2.2.2.2.1, b.2.2.2.2.2.2.1, b.2.2.2.2.2.2.2]
end Go.Proofs.YtpfmfigommmjiaaDoor
namespace Go.Proofs.YtpfmfigommmjiaaDoor
open Go.RowKit Plain
abbrev ID8 := Nat × Nat × Nat × Nat × Nat × Nat × Nat × Nat
abbrev Pl := ID8 × Int × Int × Int × Int
def plC (p : Pl) : List Value := (idL p.1).map bV ++ [.int .i64 p.2.1, .int .i64 p.2.2.1, .int .i64 p.2.2.2.1, .int .i64 p.2.2.2.2]
def plV (p : Pl) : Value := .agg (plC p).toArray
theorem plC_length (p : Pl) : (plC p).length = 12 := rfl
namespace Plain
def kOk (k : Int) : Prop := 1 ≤ k ∧ k ≤ 3
def rOk (n : Int) : Prop := 0 ≤ n ∧ n ≤ 1099511627776
def pOk (p : Pl) : Prop := kOk p.2.1 ∧ rOk p.2.2.1 ∧ rOk p.2.2.2.1 ∧ rOk p.2.2.2.2
instance (k : Int) : Decidable (kOk k) := by unfold kOk; infer_instance
instance (k : Int) : Decidable (rOk k) := by unfold rOk; infer_instance
instance (p : Pl) : Decidable (pOk p) := by unfold pOk; infer_instance
end Plain
set_option maxRecDepth 100000 in
theorem known_any (k : Int) (w : World) : Calls Tryd.prog 23 #[.int .i64 k] w fun e w' => e = .returned (.bool (decide (kOk k))) ∧ w' = w := by
  by_cases h1 : 1 ≤ k
  · have f1 : decide (k ≥ 1) = true := decide_eq_true h1
    have HE : Hid (decide (kOk k) = decide (k ≤ 3)) := by show _ = _; exact decide_eq_decide.2 ⟨fun h => h.2, fun h => ⟨h1, h⟩⟩
    go_enter Tryd.func23, Tryd.ntmps23
    go_wp2_with fail
    go_ret
    exact ⟨by rw [HE.out]; rfl, rfl⟩
  · have HE : Hid (decide (kOk k) = false) := decide_eq_false fun h => h1 h.1
    go_enter Tryd.func23, Tryd.ntmps23
    go_wp2_with fail
    go_ret
    exact ⟨by rw [HE.out]; rfl, rfl⟩
def PlEnd (w0 : World) (p : Pl) (e : Ending) (w : World) : Prop := ∃ c : Nat, e = .returned (.int .i64 (c : Int)) ∧ (c = 0 ↔ pOk p) ∧ Below w0.heap.size w0 w
end Go.Proofs.YtpfmfigommmjiaaDoor
namespace Go.Proofs.YtpfmfigommmjiaaDoor
open Go.RowKit Plain
/-- a node: name, kind, mode, time, size, parts (where, how much room, which), link -/
abbrev MN := ByteArray × Int × Int × Int × Int × (Option Addr × Nat × List ID8) × ByteArray
def mnC (m : MN) : List Value := [.string m.1, .int .i64 m.2.1, .int .i64 m.2.2.1, .int .i64 m.2.2.2.1, .int .i64 m.2.2.2.2.1, .slice m.2.2.2.2.2.1.1 m.2.2.2.2.2.1.2.2.length m.2.2.2.2.2.1.2.1, .string m.2.2.2.2.2.2]
theorem mnC_length (m : MN) : (mnC m).length = 7 := rfl
def idC (t : ID8) : List Value := (idL t).map bV
theorem idC_length (t : ID8) : (idC t).length = 8 := rfl
def ndOf (m : MN) : Nd := (strN m.1, m.2.1, m.2.2.1, m.2.2.2.1, m.2.2.2.2.1, m.2.2.2.2.2.1.2.2.map idL, strN m.2.2.2.2.2.2)
/-- parts in memory -/
def PAt (w : World) (m : MN) : Prop := SAt 8 idC w m.2.2.2.2.2.1.1 m.2.2.2.2.2.1.2.2
def NAt (w : World) (a : Option Addr) (l : List MN) : Prop := SAt 7 mnC w a l ∧ ∀ m ∈ l, PAt w m
theorem NAt.below {w w' : World} {a : Option Addr} {l : List MN} (h : NAt w a l) (hb : Below w.heap.size w w') : NAt w' a l := ⟨h.1.below hb, fun m hm => (h.2 m hm).below hb⟩
/-- sizes of what came in -/
def MZ (m : MN) : Prop := m.1.size ≤ 4611686018427387904 ∧ m.2.2.2.2.2.1.2.2.length ≤ 9223372036854775807 ∧ m.2.2.2.2.2.2.size ≤ 9223372036854775807 ∧ ∀ p ∈ m.2.2.2.2.2.1.2.2, ∀ c ∈ idL p, c < 256
def fmd (m : MN) : Bool := if m.2.1 = 1 then decide (m.2.2.2.2.2.2.size = 0) else if m.2.1 = 2 then decide (m.2.2.2.2.2.1.2.2.length = 1) && (decide (m.2.2.2.2.1 = 0) && decide (m.2.2.2.2.2.2.size = 0)) else decide (m.2.2.2.2.2.2.size ≠ 0) && (decide (m.2.2.2.2.1 = 0) && decide (m.2.2.2.2.2.1.2.2.length = 0))
def knd (k : Int) : Bool := decide (1 ≤ k ∧ k ≤ 3)
/-- what Check asks of a node by itself -/
def NOk (m : MN) : Prop := chkB m.1 = 0 ∧ (0 ≤ m.2.2.1 ∧ m.2.2.1 ≤ 511) ∧ (0 ≤ m.2.2.2.2.1 ∧ m.2.2.2.2.1 ≤ 4096) ∧ m.2.2.2.2.2.1.2.2.length ≤ 300 ∧ knd m.2.1 = true ∧ fmd m = true ∧ m.2.2.2.2.2.2.size ≤ 1024
/-- a node's cells -/
theorem SAt.node {w : World} {a : Option Addr} {l : List MN} (h : SAt 7 mnC w a l) (i : Nat) (hi : i < l.length) (m : MN) (hm : l[i] = m) : ∃ g off, a = some ⟨g, off, none⟩ ∧ g < w.heap.size ∧
    w.cell? ⟨g, off + i * 7, none⟩ = some (.string m.1) ∧ w.cell? ⟨g, off + i * 7 + 1, none⟩ = some (.int .i64 m.2.1) ∧ w.cell? ⟨g, off + i * 7 + 2, none⟩ = some (.int .i64 m.2.2.1) ∧ w.cell? ⟨g, off + i * 7 + 3, none⟩ = some (.int .i64 m.2.2.2.1) ∧
    w.cell? ⟨g, off + i * 7 + 4, none⟩ = some (.int .i64 m.2.2.2.2.1) ∧ w.cell? ⟨g, off + i * 7 + 5, none⟩ = some (.slice m.2.2.2.2.2.1.1 m.2.2.2.2.2.1.2.2.length m.2.2.2.2.2.1.2.1) ∧ w.cell? ⟨g, off + i * 7 + 6, none⟩ = some (.string m.2.2.2.2.2.2) := by
  obtain ⟨g, off, e, hg, hr⟩ := h i hi
  subst hm
  exact ⟨g, off, e, hg, hr 0 _ rfl, hr 1 _ rfl, hr 2 _ rfl, hr 3 _ rfl, hr 4 _ rfl, hr 5 _ rfl, hr 6 _ rfl⟩
set_option maxRecDepth 100000 in
theorem tknown_any (k : Int) (w : World) : Calls Tryd.prog 41 #[.int .i64 k] w fun e w' => e = .returned (.bool (knd k)) ∧ w' = w := by
  by_cases h1 : 1 ≤ k
  · have f1 : decide (k ≥ 1) = true := decide_eq_true h1
    have HE : Hid (knd k = decide (k ≤ 3)) := by show _ = _; exact decide_eq_decide.2 ⟨fun h => h.2, fun h => ⟨h1, h⟩⟩
    go_enter Tryd.func41, Tryd.ntmps41
    go_wp2_with fail
    go_ret
    exact ⟨by rw [HE.out]; rfl, rfl⟩
  · have HE : Hid (knd k = false) := decide_eq_false fun h => h1 h.1
    go_enter Tryd.func41, Tryd.ntmps41
    go_wp2_with fail
    go_ret
    exact ⟨by rw [HE.out]; rfl, rfl⟩
set_option maxRecDepth 100000 in
set_option maxHeartbeats 2000000 in
theorem formed_any (n : ByteArray) (k md tm sz : Int) (a : Option Addr) (len cap : Nat) (lk : ByteArray) (b : Bool) (hb : b = if k = 1 then decide (lk.size = 0) else if k = 2 then decide (len = 1) && (decide (sz = 0) && decide (lk.size = 0)) else decide (lk.size ≠ 0) && (decide (sz = 0) && decide (len = 0))) (w : World) :
    Calls Tryd.prog 42 #[.agg #[.string n, .int .i64 k, .int .i64 md, .int .i64 tm, .int .i64 sz, .slice a len cap, .string lk]] w fun e w' => e = .returned (.bool b) ∧ Below w.heap.size w w' := by
  have HB := Lib.hid ((Below.refl w.heap.size w).alloc (Nat.le_refl _) (.cells #[.string n, .int .i64 k, .int .i64 md, .int .i64 tm, .int .i64 sz, .slice a len cap, .string lk] 40))
  by_cases hz : lk.size = 0
  · obtain rfl := str_nil_of' hz
    by_cases k1 : k = 1
    · subst k1
      have HV : Hid (b = true) := by show _ = _; rw [hb]; rfl
      clear hb hz
      go_enter Tryd.func42, Tryd.ntmps42
      go_wp2_with fail
      go_ret
      exact ⟨by rw [HV.out]; rfl, HB.out⟩
    · by_cases k2 : k = 2
      · subst k2
        by_cases hl : len = 1
        · subst hl
          by_cases hs : sz = 0
          · subst hs
            have HV : Hid (b = true) := by show _ = _; rw [hb]; rfl
            clear hb hz
            go_enter Tryd.func42, Tryd.ntmps42
            go_wp2_with fail
            go_ret
            exact ⟨by rw [HV.out]; rfl, HB.out⟩
          · have f1 : (sz == 0) = false := by simpa using hs
            have HV : Hid (b = false) := by show _ = _; rw [hb]; simp [hs]
            clear hb hz hs
            go_enter Tryd.func42, Tryd.ntmps42
            go_wp2_with fail
            go_ret
            exact ⟨by rw [HV.out]; rfl, HB.out⟩
        · have f1 : ((len : Int) == 1) = false := by simp; omega
          have HV : Hid (b = false) := by show _ = _; rw [hb]; simp [hl]
          clear hb hz hl
          go_enter Tryd.func42, Tryd.ntmps42
          go_wp2_with fail
          go_ret
          exact ⟨by rw [HV.out]; rfl, HB.out⟩
      · have f1 : (k == 1) = false := by simpa using k1
        have f2 : (k == 2) = false := by simpa using k2
        have HV : Hid (b = false) := by show _ = _; rw [hb, if_neg k1, if_neg k2, show decide ((⟨#[]⟩ : ByteArray).size ≠ 0) = false from rfl]; rfl
        clear hb hz k1 k2
        go_enter Tryd.func42, Tryd.ntmps42
        go_wp2_with fail
        go_ret
        exact ⟨by rw [HV.out]; rfl, HB.out⟩
  · have hne := isEmpty_false' hz
    by_cases k1 : k = 1
    · subst k1
      have HV : Hid (b = false) := by show _ = _; rw [hb]; simp [hz]
      clear hb hz
      go_enter Tryd.func42, Tryd.ntmps42
      go_wp2_with fail
      go_ret
      exact ⟨by rw [HV.out]; rfl, HB.out⟩
    · by_cases k2 : k = 2
      · subst k2
        have HV : Hid (b = false) := by show _ = _; rw [hb]; simp [hz]
        clear hb hz
        by_cases hl : len = 1
        · subst hl
          by_cases hs : sz = 0
          · subst hs
            go_enter Tryd.func42, Tryd.ntmps42
            go_wp2_with fail
            go_ret
            exact ⟨by rw [HV.out]; rfl, HB.out⟩
          · have f1 : (sz == 0) = false := by simpa using hs
            clear hs
            go_enter Tryd.func42, Tryd.ntmps42
            go_wp2_with fail
            go_ret
            exact ⟨by rw [HV.out]; rfl, HB.out⟩
        · have f1 : ((len : Int) == 1) = false := by simp; omega
          clear hl
          go_enter Tryd.func42, Tryd.ntmps42
          go_wp2_with fail
          go_ret
          exact ⟨by rw [HV.out]; rfl, HB.out⟩
      · have f1 : (k == 1) = false := by simpa using k1
        have f2 : (k == 2) = false := by simpa using k2
        by_cases hs : sz = 0
        · subst hs
          by_cases hl : len = 0
          · subst hl
            have HV : Hid (b = true) := by show _ = _; rw [hb, if_neg k1, if_neg k2]; simp [hz]
            clear hb hz k1 k2
            go_enter Tryd.func42, Tryd.ntmps42
            go_wp2_with fail
            go_ret
            exact ⟨by rw [HV.out]; rfl, HB.out⟩
          · have f3 : ((len : Int) == 0) = false := by simp; omega
            have HV : Hid (b = false) := by show _ = _; rw [hb, if_neg k1, if_neg k2]; simp [hl]
            clear hb hz k1 k2 hl
            go_enter Tryd.func42, Tryd.ntmps42
            go_wp2_with fail
            go_ret
            exact ⟨by rw [HV.out]; rfl, HB.out⟩
        · have f3 : (sz == 0) = false := by simpa using hs
          have HV : Hid (b = false) := by show _ = _; rw [hb, if_neg k1, if_neg k2]; simp [hs]
          clear hb hz k1 k2 hs
          go_enter Tryd.func42, Tryd.ntmps42
          go_wp2_with fail
          go_ret
          exact ⟨by rw [HV.out]; rfl, HB.out⟩
end Go.Proofs.YtpfmfigommmjiaaDoor
namespace Go.Proofs.YtpfmfigommmjiaaDoor
open Go.RowKit
section
variable {P : Program} {ops : Array Oper} {Q Q' : Exit → Act → World → Prop} {md : Region.Mode} {S S2 : World → Prop}
theorem wpAnyH_strong (hS : ∀ w, S2 w → S w) : ∀ (fuel : Nat) (listed : Array Bool) (a : Act) (w : World), wpAnyH P md ops Q S2 fuel listed a w → wpAnyH P md ops Q S fuel listed a w
  | 0, _, _, _, h => h
  | fuel + 1, _, _, _, h => ⟨h.1, fun i hi => wpOp_mono (fun a' w' h' => ⟨hS w' h'.1, wpAnyH_strong hS fuel _ a' w' h'.2⟩) (h.2 i hi)⟩
theorem wpOp_monoQ (hQ : ∀ e a w, Q e a w → Q' e a w) {i : Nat} {K : Act → World → Prop} {a : Act} {w : World} (h : wpOp P ops Q i K a w) : wpOp P ops Q' i K a w := by
  have hl : LetsOut Q → LetsOut Q' := fun ⟨a, w, h⟩ => ⟨a, w, hQ _ _ _ h⟩
  unfold wpOp at *
  split
  · rename_i ho; simpa [ho] using h
  · rename_i o ho
    simp only [ho] at h
    split
    · rename_i hw
      simp only [hw, if_true] at h
      refine h.imp (fun h => ?_) (fun h => ⟨h.1, hl h.2⟩)
      unfold Oper.wp at *
      generalize (execOp a.eval o).run P w = r at *
      cases r with
      | ok n w' =>
        cases n <;> simp only [Oper.upon] at h ⊢ <;>
          first
            | exact h
            | exact Calls.mono h (fun e w'' he => by cases e <;> first | exact he | exact hQ _ _ _ he | exact hl he)
      | halt x w' => cases x <;> simp only [Oper.upon] at h ⊢ <;> exact hQ _ _ _ h
    · rename_i hw; simp only [hw] at h; exact h
theorem wpAny_monoQ (hQ : ∀ e a w, Q e a w → Q' e a w) : ∀ (fuel : Nat) (listed : Array Bool) (a : Act) (w : World), wpAny P md ops Q fuel listed a w → wpAny P md ops Q' fuel listed a w
  | 0, _, _, _, h => ⟨h.1, hQ _ _ _ h.2⟩
  | fuel + 1, _, _, _, h => ⟨fun hr => hQ _ _ _ (h.1 hr), fun i hi => wpOp_mono (fun a' w' h' => wpAny_monoQ hQ fuel _ a' w' h') (wpOp_monoQ hQ (h.2 i hi))⟩
/-- what holds behind a region, and nothing else -/
def OnlyN (T : Act → World → Prop) (e : Exit) (a : Act) (w : World) : Prop := match e with
  | .normal => T a w
  | _ => False
/-- a drawn region cut off: what holds behind it, then the rest -/
theorem wp_region_mid {id : Nat} {a : Act} {w : World} (T : Act → World → Prop) (hm : P.follows .mixedOrders = true) (hT : ∀ a w, T a w → Q .normal a w)
    (h : wpAnyH P .any ops (OnlyN T) S ops.size (Array.replicate ops.size false) a w.drew) : (Code.region id ops true).wp P Q a w :=
  wp_region_any hm (wpAny_monoQ (fun e a w h => by cases e <;> first | exact hT _ _ h | exact h.elim) _ _ _ _ (wpAny_of_held _ _ _ _ h))
end
end Go.Proofs.YtpfmfigommmjiaaDoor
