/- index.Compare: two names compared by their bytes. -/
import Derived.Test.YtinjnclpiiohcaaBytesOwn
import Derived.Laws.Externs
import Derived.Lib.BytesEntry
import Derived.Lib.Bytealg
import Derived.Test.YtinjnclpiiohcaaRows
import Derived.WalkSpells
import Derived.WalkLawsBesides
import Derived.Deep.QuietTactic
import Derived.BigQuiet
namespace Go.Proofs.Ytinjnclpiiohcaa
open Go.RowKit
namespace Plain
/-- how two lists of bytes stand to each other -/
def cmpN : List Nat → List Nat → Int
  | [], [] => 0
  | [], _ :: _ => -1
  | _ :: _, [] => 1
  | a :: x, b :: y => if a < b then -1 else if b < a then 1 else cmpN x y
theorem cmpN_self : ∀ l : List Nat, cmpN l l = 0
  | [] => rfl
  | a :: l => by rw [cmpN, if_neg (Nat.lt_irrefl a), if_neg (Nat.lt_irrefl a), cmpN_self l]
theorem cmpN_zero : ∀ l m : List Nat, cmpN l m = 0 ↔ l = m
  | [], [] => by simp [cmpN]
  | [], _ :: _ => by simp [cmpN]
  | _ :: _, [] => by simp [cmpN]
  | a :: x, b :: y => by
    have ih := cmpN_zero x y
    rw [cmpN]
    by_cases h1 : a < b
    · rw [if_pos h1]
      constructor
      · intro h; omega
      · intro h
        injection h with h _
        omega
    · by_cases h2 : b < a
      · rw [if_neg h1, if_pos h2]
        constructor
        · intro h; omega
        · intro h
          injection h with h _
          omega
      · rw [if_neg h1, if_neg h2, ih]
        obtain rfl : a = b := by omega
        simp
theorem cmpN_neg : ∀ l m : List Nat, cmpN m l = - cmpN l m
  | [], [] => rfl
  | [], _ :: _ => rfl
  | _ :: _, [] => rfl
  | a :: x, b :: y => by
    have ih := cmpN_neg x y
    rw [cmpN, cmpN]
    by_cases h1 : a < b
    · have h2 : ¬ b < a := by omega
      simp [h1, h2]
    · by_cases h2 : b < a
      · simp [h1, h2]
      · simp [h1, h2, ih]
theorem cmpN_trans : ∀ l m n : List Nat, cmpN l m < 0 → cmpN m n < 0 → cmpN l n < 0
  | [], [], _, h, _ => by simp [cmpN] at h
  | [], _ :: _, [], _, h => by simp [cmpN] at h
  | [], _ :: _, _ :: _, _, _ => by simp [cmpN]
  | _ :: _, [], _, h, _ => by simp [cmpN] at h
  | _ :: _, _ :: _, [], _, h => by simp [cmpN] at h
  | a :: x, b :: y, c :: z, h1, h2 => by
    have ih := cmpN_trans x y z
    rw [cmpN] at h1 h2 ⊢
    by_cases e1 : a < b
    · by_cases e2 : b < c
      · rw [if_pos (by omega)]; omega
      · rw [if_neg e2] at h2
        by_cases e3 : c < b
        · rw [if_pos e3] at h2; omega
        · rw [if_pos (by omega)]; omega
    · rw [if_neg e1] at h1
      by_cases e4 : b < a
      · rw [if_pos e4] at h1; omega
      · rw [if_neg e4] at h1
        obtain rfl : a = b := by omega
        by_cases e2 : a < c
        · rw [if_pos e2]; omega
        · rw [if_neg e2] at h2 ⊢
          by_cases e3 : c < a
          · rw [if_pos e3] at h2; omega
          · rw [if_neg e3] at h2 ⊢
            exact ih h1 h2
theorem cmpN_bytes : ∀ l m : List Nat, (∀ c ∈ l, c < 256) → (∀ c ∈ m, c < 256) → Lib.compareBytes (l.map UInt8.ofNat) (m.map UInt8.ofNat) = cmpN l m
  | [], [], _, _ => rfl
  | [], _ :: _, _, _ => rfl
  | _ :: _, [], _, _ => rfl
  | a :: x, b :: y, h1, h2 => by
    have ih := cmpN_bytes x y (fun c hc => h1 c (List.mem_cons_of_mem _ hc)) (fun c hc => h2 c (List.mem_cons_of_mem _ hc))
    have ha := h1 a (by simp)
    have hb := h2 b (by simp)
    have e : ∀ p q : Nat, p < 256 → q < 256 → ((UInt8.ofNat p < UInt8.ofNat q) ↔ p < q) := fun p q hp hq => by
      rw [UInt8.lt_iff_toNat_lt, UInt8.toNat_ofNat', UInt8.toNat_ofNat', Nat.mod_eq_of_lt hp, Nat.mod_eq_of_lt hq]
    simp only [List.map_cons, Lib.compareBytes, cmpN, ih]
    by_cases e1 : a < b
    · rw [if_pos e1, if_pos ((e a b ha hb).2 e1)]
    · rw [if_neg e1, if_neg (fun h => e1 ((e a b ha hb).1 h))]
      by_cases e2 : b < a
      · rw [if_pos e2, if_pos ((e b a hb ha).2 e2)]
      · rw [if_neg e2, if_neg (fun h => e2 ((e b a hb ha).1 h))]
end Plain
open Plain
theorem run_bytesOf_row {P : Program} {w : World} {g : Nat} {t : TypeId} {l : List Nat} (h : w.heap[g]? = some (.cells (l.map bV).toArray t (0, 0))) (cap : Nat) :
    (Extern.Bytes.bytesOf (.slice (some ⟨g, 0, none⟩) l.length cap)).run P w = .ok (strOf l) w := by
  have hc : ∀ j x, (l.map fun n : Nat => (n : Int))[j]? = some x → w.cell? ((⟨g, 0, none⟩ : Addr).add j) = some (.int .u8 x) := by
    intro j x hx
    have e : ((⟨g, 0, none⟩ : Addr).add j) = ⟨g, j, none⟩ := by
      unfold Addr.add
      split
      · rename_i h; subst h; rfl
      · simp
    rw [e, cell_of_row _ _ _ _ _ _ h]
    rw [List.getElem?_map] at hx
    cases hj : l[j]? with
    | none => rw [hj] at hx; cases hx
    | some c =>
      rw [hj] at hx
      have hx' : (c : Int) = x := by simpa using hx
      subst hx'
      simp [hj, bV]
  have := Go.Lib.run_loadBytesX (P := P) w (l.map fun n : Nat => (n : Int)) ⟨g, 0, none⟩ .empty hc
  rw [List.length_map] at this
  have e : (⟨ByteArray.empty.data ++ (Go.Lib.bytesOf (l.map fun n : Nat => (n : Int))).toArray⟩ : ByteArray) = strOf l := by
    show (⟨#[] ++ (Go.Lib.bytesOf (l.map fun n : Nat => (n : Int))).toArray⟩ : ByteArray) = ⟨(l.map UInt8.ofNat).toArray⟩
    rw [Array.empty_append]
    unfold Go.Lib.bytesOf
    rw [List.map_map]
    rfl
  rw [e] at this
  exact this
theorem cmp_law (w : World) (g h : Nat) (t u : TypeId) (l m : List Nat) (hl : ∀ c ∈ l, c < 256) (hm : ∀ c ∈ m, c < 256) (h1 : w.heap[g]? = some (.cells (l.map bV).toArray t (0, 0))) (h2 : w.heap[h]? = some (.cells (m.map bV).toArray u (0, 0))) (ca cb : Nat) :
    (callFunc 82 #[.slice (some ⟨g, 0, none⟩) l.length ca, .slice (some ⟨h, 0, none⟩) m.length cb]).run Try.prog w = .ok (.value (.int .i64 (cmpN l m))) w := by
  rw [run_callFunc_extern Try.func82 (by kernel_rfl) (by kernel_rfl) (by kernel_rfl) (e := Extern.BytealgCompare.compare) (by kernel_rfl)]
  have e1 := run_bytesOf_row (P := Try.prog) h1 ca
  have e2 := run_bytesOf_row (P := Try.prog) h2 cb
  have e3 : Extern.BytealgCompare.cmp (strOf l) (strOf m) = cmpN l m := by
    rw [Lib.cmp_eq]
    exact cmpN_bytes l m hl hm
  change ((do pure (goInt (Extern.BytealgCompare.cmp (← Extern.Bytes.bytesOf (.slice (some ⟨g, 0, none⟩) l.length ca)) (← Extern.Bytes.bytesOf (.slice (some ⟨h, 0, none⟩) m.length cb)))) : Sem Value).run Try.prog w).andThen _ = _
  simp [e1, e2, e3, Result.andThen, goInt]
theorem heap_two' (w : World) (o1 o2 : Obj) : ((w.alloc o1).alloc o2).heap[w.heap.size]? = some o1 ∧ ((w.alloc o1).alloc o2).heap[w.heap.size + 1]? = some o2 := by
  constructor
  · exact (Below.heap_alloc (w.alloc o1) o2 w.heap.size (by simp)).trans (heap_alloc_new w o1)
  · have := heap_alloc_new (w.alloc o1) o2
    simpa using this
def idV (b : Nat × Nat × Nat × Nat × Nat × Nat × Nat × Nat) : Value := .agg #[bV b.1, bV b.2.1, bV b.2.2.1, bV b.2.2.2.1, bV b.2.2.2.2.1, bV b.2.2.2.2.2.1, bV b.2.2.2.2.2.2.1, bV b.2.2.2.2.2.2.2]
def idL (b : Nat × Nat × Nat × Nat × Nat × Nat × Nat × Nat) : List Nat := [b.1, b.2.1, b.2.2.1, b.2.2.2.1, b.2.2.2.2.1, b.2.2.2.2.2.1, b.2.2.2.2.2.2.1, b.2.2.2.2.2.2.2]
set_option maxRecDepth 100000 in
theorem bcompare_any (w : World) (g h : Nat) (t u : TypeId) (l m : List Nat) (hl : ∀ c ∈ l, c < 256) (hm : ∀ c ∈ m, c < 256) (h1 : w.heap[g]? = some (.cells (l.map bV).toArray t (0, 0))) (h2 : w.heap[h]? = some (.cells (m.map bV).toArray u (0, 0))) (ca cb : Nat) :
    Calls Try.prog 78 #[.slice (some ⟨g, 0, none⟩) l.length ca, .slice (some ⟨h, 0, none⟩) m.length cb] w fun e w' => e = .returned (.int .i64 (cmpN l m)) ∧ w' = w := by
  have hc := cmp_law w g h t u l m hl hm h1 h2 ca cb
  clear h1 h2
  go_enter Try.func78, Try.ntmps78
  go_wp2_with fail
  go_ret
  exact ⟨rfl, rfl⟩
set_option maxRecDepth 100000 in
theorem icompare_any (a b : Nat × Nat × Nat × Nat × Nat × Nat × Nat × Nat) (ha : ∀ c ∈ idL a, c < 256) (hb : ∀ c ∈ idL b, c < 256) (w : World) :
    Calls Try.prog 64 #[idV a, idV b] w fun e w' => e = .returned (.int .i64 (cmpN (idL a) (idL b))) ∧ Below w.heap.size w w' := by
  have HBC := Lib.hid fun u g h l m hl hm h1 h2 => bcompare_any u g h 67 67 l m hl hm h1 h2 8 8
  have hx := heap_two' w (.cells (((idL a).map bV).toArray) 67) (.cells (((idL b).map bV).toArray) 67)
  obtain ⟨a0, a1, a2, a3, a4, a5, a6, a7⟩ := a
  obtain ⟨b0, b1, b2, b3, b4, b5, b6, b7⟩ := b
  unfold idV
  simp only [bV]
  go_enter Try.func64, Try.ntmps64
  go_wp2_with fail
  simp only [idL, List.map_cons, List.map_nil, bV] at hx
  have HB := Lib.hid (((Below.refl w.heap.size w).alloc (Nat.le_refl _) (.cells #[.int .u8 (a0 : Int), .int .u8 (a1 : Int), .int .u8 (a2 : Int), .int .u8 (a3 : Int), .int .u8 (a4 : Int), .int .u8 (a5 : Int), .int .u8 (a6 : Int), .int .u8 (a7 : Int)] 67)).alloc (by simp) (.cells #[.int .u8 (b0 : Int), .int .u8 (b1 : Int), .int .u8 (b2 : Int), .int .u8 (b3 : Int), .int .u8 (b4 : Int), .int .u8 (b5 : Int), .int .u8 (b6 : Int), .int .u8 (b7 : Int)] 67))
  have HROWS := Lib.hid hx
  generalize (w.alloc (.cells #[.int .u8 (a0 : Int), .int .u8 (a1 : Int), .int .u8 (a2 : Int), .int .u8 (a3 : Int), .int .u8 (a4 : Int), .int .u8 (a5 : Int), .int .u8 (a6 : Int), .int .u8 (a7 : Int)] 67)).alloc (.cells #[.int .u8 (b0 : Int), .int .u8 (b1 : Int), .int .u8 (b2 : Int), .int .u8 (b3 : Int), .int .u8 (b4 : Int), .int .u8 (b5 : Int), .int .u8 (b6 : Int), .int .u8 (b7 : Int)] 67) = wx at *
  have HA := Lib.hid ha
  have HB8 := Lib.hid hb
  clear ha hb
  clear hx
  have HQ : Hid (∀ q, Calls Try.prog 78 #[.slice (some ⟨w.heap.size, 0, none⟩) 8 8, .slice (some ⟨w.heap.size + 1, 0, none⟩) 8 8] (wx.drewN q) fun e w' => e = .returned (.int .i64 (cmpN (idL (a0, a1, a2, a3, a4, a5, a6, a7)) (idL (b0, b1, b2, b3, b4, b5, b6, b7)))) ∧ w' = wx.drewN q) :=
    fun q => HBC.out (wx.drewN q) w.heap.size (w.heap.size + 1) (idL (a0, a1, a2, a3, a4, a5, a6, a7)) (idL (b0, b1, b2, b3, b4, b5, b6, b7)) HA.out HB8.out HROWS.out.1 HROWS.out.2
  go_quiet ((go_at_call 78; refine Calls.quiet_of_same (HQ.out _)))
  go_wp2_with fail
  go_ret
  exact ⟨rfl, below_dn HB.out _⟩
end Go.Proofs.Ytinjnclpiiohcaa
