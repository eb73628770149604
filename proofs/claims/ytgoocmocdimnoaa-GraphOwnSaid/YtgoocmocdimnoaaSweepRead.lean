/- What a heap of things is in memory; the walks of there, check and Check. -/
import Derived.Test.YtgoocmocdimnoaaClosure
import Derived.Test.YtgoocmocdimnoaaSweepPlain
namespace Go.Proofs.Ytgoocmocdimnoaa
open Go.RowKit Plain
set_option linter.unusedVariables false
/-- a thing's row: its kids' slice and capacity, and what it is -/
abbrev TRow := Option Addr × Nat × Thg
def tcC (r : TRow) : List Value := [.slice r.1 r.2.2.1.length r.2.1, .int .i64 r.2.2.2.1, .bool r.2.2.2.2]
theorem tcC_length (r : TRow) : (tcC r).length = 3 := rfl
def tK (rows : List TRow) : List Thg := rows.map (·.2.2)
theorem tK_length (rows : List TRow) : (tK rows).length = rows.length := by simp [tK]
theorem tK_get (rows : List TRow) (i : Nat) (h : i < rows.length) : (tK rows)[i]? = some rows[i].2.2 := by simp [tK, h]
def TAt (w : World) (a : Option Addr) (rows : List TRow) : Prop := SAt 3 tcC w a rows ∧ ∀ r ∈ rows, SAt 1 iC w r.1 r.2.2.1 ∧ r.2.2.1.length ≤ 9223372036854775807
theorem TAt.below {w w' : World} {a : Option Addr} {rows : List TRow} (h : TAt w a rows) (hb : Below w.heap.size w w') : TAt w' a rows := ⟨h.1.below hb, fun r hr => ⟨(h.2 r hr).1.below hb, (h.2 r hr).2⟩⟩
theorem SAt.thg {w : World} {a : Option Addr} {rows : List TRow} (h : SAt 3 tcC w a rows) (i : Nat) (hi : i < rows.length) (r : TRow) (hr : rows[i] = r) :
    ∃ g off, a = some ⟨g, off, none⟩ ∧ g < w.heap.size ∧ w.cell? ⟨g, off + i * 3, none⟩ = some (.slice r.1 r.2.2.1.length r.2.1) ∧ w.cell? ⟨g, off + i * 3 + 1, none⟩ = some (.int .i64 r.2.2.2.1) ∧ w.cell? ⟨g, off + i * 3 + 2, none⟩ = some (.bool r.2.2.2.2) := by
  subst hr
  obtain ⟨g, off, e, hg, hc⟩ := h i hi
  exact ⟨g, off, e, hg, hc 0 _ rfl, hc 1 _ rfl, hc 2 _ rfl⟩
namespace Plain
def thereB (ts : List Thg) (k : Int) : Bool := decide (0 ≤ k) && match ts[k.toNat]? with
  | some t => !t.2.2
  | none => false
theorem thereB_iff {ts : List Thg} {k : Int} : thereB ts k = true ↔ There ts k := by
  unfold thereB There
  rw [Bool.and_eq_true, decide_eq_true_eq]
  cases ts[k.toNat]? with
  | none => simp
  | some t => simp
theorem thereB_neg {ts : List Thg} {k : Int} (h : k < 0) : thereB ts k = false := by unfold thereB; rw [decide_eq_false (by omega)]; rfl
theorem thereB_big {ts : List Thg} {k : Nat} (h : ts.length ≤ k) : thereB ts (k : Int) = false := by
  unfold thereB
  rw [Int.toNat_natCast, List.getElem?_eq_none h]
  simp
theorem thereB_at {ts : List Thg} {k : Nat} {t : Thg} (h : ts[k]? = some t) : thereB ts (k : Int) = !t.2.2 := by
  unfold thereB
  rw [Int.toNat_natCast, h]
  simp
end Plain
/-- an index at which p holds, or -1 -/
def Idx (p : Int → Bool) (l : List Int) (w : World) (e : Ending) (w' : World) : Prop := ∃ r : Int, e = .returned (.int .i64 r) ∧ Below w.heap.size w w' ∧ -1 ≤ r ∧ r ≤ 9223372036854775807 ∧ ((r = -1 ∧ ∀ x ∈ l, p x = false) ∨ (0 ≤ r ∧ ∃ x ∈ l, p x = true))
set_option maxRecDepth 100000 in
theorem there_any (a : Option Addr) (tc : Nat) (rows : List TRow) (b : Option Addr) (m rc : Nat) (bz : Bool) (k : Int) (w : World) (h : SAt 3 tcC w a rows) (hl : rows.length ≤ 9223372036854775807) :
    Calls Try.prog 46 #[.agg #[.slice a rows.length tc, .slice b m rc, .bool bz], .int .i64 k] w fun e w' => e = .returned (.bool (thereB (tK rows) k)) ∧ Below w.heap.size w w' := by
  have HB := Lib.hid ((Below.refl w.heap.size w).alloc (Nat.le_refl _) (.cells #[.slice a rows.length tc, .slice b m rc, .bool bz] 41))
  have HS := Lib.hid h
  clear h
  by_cases h0 : k < 0
  · rw [thereB_neg h0]
    go_enter Try.func46, Try.ntmps46
    go_wp2_with fail
    go_ret
    exact ⟨rfl, HB.out⟩
  · obtain ⟨kn, rfl⟩ := Int.eq_ofNat_of_zero_le (show 0 ≤ k by omega)
    by_cases h1 : kn < rows.length
    · have m1 : (kn : Int) < (rows.length : Int) := by omega
      have m0 : (0 : Int) ≤ (kn : Int) := Int.natCast_nonneg _
      have et := tK_get rows kn h1
      obtain ⟨g, off, rfl, hg, c0, c1, c2⟩ := HS.out.thg kn h1 _ rfl
      rw [thereB_at et]
      generalize rows[kn] = r at *
      have c2' : (w.alloc (.cells #[.slice (some ⟨g, off, none⟩) rows.length tc, .slice b m rc, .bool bz] 41)).cell? ⟨g, off + kn * 3 + 2, none⟩ = some (.bool r.2.2.2.2) := Lib.cell?_alloc_some _ c2
      clear et c0 c1
      go_enter Try.func46, Try.ntmps46
      go_wp2_with fail
      go_ret
      exact ⟨rfl, HB.out⟩
    · have m1 : ¬ (kn : Int) < (rows.length : Int) := by omega
      have m0 : (0 : Int) ≤ (kn : Int) := Int.natCast_nonneg _
      rw [thereB_big (by rw [tK_length]; omega)]
      go_enter Try.func46, Try.ntmps46
      go_wp2_with fail
      go_ret
      exact ⟨rfl, HB.out⟩
set_option maxRecDepth 100000 in
theorem ckid_any (a : Option Addr) (tc : Nat) (rows : List TRow) (b : Option Addr) (m rc : Nat) (bz : Bool) (k : Int) (B : Nat) (w : World) (h : SAt 3 tcC w a rows) (hl : rows.length ≤ 9223372036854775807) (hB : w.heap[B]? = some (.cells #[.slice a rows.length tc, .slice b m rc, .bool bz] 41 (0, 0))) :
    Calls Try.prog 61 #[.int .i64 k, .pointer (some ⟨B, 0, none⟩)] w fun e w' => e = .returned (.bool (!thereB (tK rows) k)) ∧ Below w.heap.size w w' := by
  have HT := Lib.hid (there_any a tc rows b m rc bz k w h hl)
  have c0 := cell_of_row w B 0 _ _ _ hB
  have c1 := cell_of_row w B 1 _ _ _ hB
  have c2 := cell_of_row w B 2 _ _ _ hB
  simp only [List.getElem?_toArray, List.getElem?_cons_zero, List.getElem?_cons_succ] at c0 c1 c2
  generalize thereB (tK rows) k = r at *
  clear h hB
  go_enter Try.func61, Try.ntmps61
  go_wp2_with fail
  refine HT.out.mono ?_
  rintro e w1 ⟨rfl, hb⟩
  go_wp2_with fail
  go_ret
  exact ⟨rfl, hb⟩
set_option maxRecDepth 100000 in
theorem croot_any (a : Option Addr) (tc : Nat) (rows : List TRow) (b : Option Addr) (m rc : Nat) (bz : Bool) (k : Int) (B : Nat) (w : World) (h : SAt 3 tcC w a rows) (hl : rows.length ≤ 9223372036854775807) (hB : w.heap[B]? = some (.cells #[.slice a rows.length tc, .slice b m rc, .bool bz] 41 (0, 0))) :
    Calls Try.prog 45 #[.int .i64 k, .pointer (some ⟨B, 0, none⟩)] w fun e w' => e = .returned (.bool (!thereB (tK rows) k)) ∧ Below w.heap.size w w' := by
  have HT := Lib.hid (there_any a tc rows b m rc bz k w h hl)
  have c0 := cell_of_row w B 0 _ _ _ hB
  have c1 := cell_of_row w B 1 _ _ _ hB
  have c2 := cell_of_row w B 2 _ _ _ hB
  simp only [List.getElem?_toArray, List.getElem?_cons_zero, List.getElem?_cons_succ] at c0 c1 c2
  generalize thereB (tK rows) k = r at *
  clear h hB
  go_enter Try.func45, Try.ntmps45
  go_wp2_with fail
  refine HT.out.mono ?_
  rintro e w1 ⟨rfl, hb⟩
  go_wp2_with fail
  go_ret
  exact ⟨rfl, hb⟩
set_option maxRecDepth 100000 in
theorem indexKid_any (p : Int → Bool) (B : Nat) (a : Option Addr) (cap : Nat) (l : List Int) (w : World) (hp : ∀ n wx, Below w.heap.size w wx → Calls Try.prog 61 #[.int .i64 n, .pointer (some ⟨B, 0, none⟩)] wx fun e w' => e = .returned (.bool (p n)) ∧ Below wx.heap.size wx w') (h : SAt 1 iC w a l) (hl : l.length ≤ 9223372036854775807) :
    Calls Try.prog 42 #[.slice a l.length cap, .func (Fn.func 61) #[] #[.pointer (some ⟨B, 0, none⟩)]] w (Idx p l w) := by
  have HP := Lib.hid hp
  have HS := Lib.hid h
  clear hp h
  go_enter Try.func42, Try.ntmps42
  go_wp2_with fail
  go_loopw [8] (fun iv wr => ∃ i : Nat, i ≤ l.length ∧ iv = .int .i64 (i : Int) ∧ Below w.heap.size w wr ∧ ∀ x ∈ l.take i, p x = false) (fun iv _ => l.length - (intOf iv).toNat)
  case atStart => exact ⟨0, by omega, rfl, Below.refl _ _, by simp⟩
  case round =>
    obtain ⟨i, hi, rfl, hbr, hall⟩ := hrel
    have HBR := Lib.hid hbr
    have HALL := Lib.hid hall
    clear hbr hall
    by_cases hlt : i < l.length
    · have m1 : (i : Int) < (l.length : Int) := by omega
      obtain ⟨g, off, rfl, hg, hr⟩ := (HS.out.below HBR.out).int i hlt
      have HMEM : Hid (l[i] ∈ l) := List.getElem_mem hlt
      have HST : Hid (p l[i] = false → ∀ x ∈ l.take (i + 1), p x = false) := fun h x hx => by
        rw [List.take_succ_eq_append_getElem hlt] at hx
        rcases List.mem_append.1 hx with hx | hx
        · exact HALL.out x hx
        · simp only [List.mem_singleton] at hx; rw [hx]; exact h
      generalize l[i] = t at *
      have HPT := Lib.hid (HP.out t wr HBR.out)
      clear hg
      cases hq : p t with
      | true =>
        rw [hq] at HPT
        have HQ := Lib.hid hq
        clear hq
        go_wp2_with fail
        refine HPT.out.mono ?_
        rintro e w' ⟨rfl, hb'⟩
        have HB' := Lib.hid (Below.step HBR.out hb')
        clear hb'
        go_wp2_with fail
        go_ret
        exact ⟨(i : Int), rfl, HB'.out, by omega, by omega, .inr ⟨by omega, t, HMEM.out, HQ.out⟩⟩
      | false =>
        rw [hq] at HPT
        have HQ := Lib.hid (HST.out hq)
        clear hq
        go_wp2_with fail
        refine HPT.out.mono ?_
        rintro e w' ⟨rfl, hb'⟩
        have HB' := Lib.hid (Below.step HBR.out hb')
        clear hb'
        go_wp2_with fail
        go_roundw
        case rel => exact ⟨i + 1, by omega, by go_num, HB'.out, HQ.out⟩
        case measure => simp [intOf]; omega
    · have m1 : ¬ (i : Int) < (l.length : Int) := by omega
      have HE : Hid (∀ x ∈ l, p x = false) := by
        have h := HALL.out
        rwa [List.take_of_length_le (by omega)] at h
      go_wp2_with fail
      go_ret
      exact ⟨-1, rfl, HBR.out, by omega, by omega, .inl ⟨rfl, HE.out⟩⟩
theorem containsKid_any (p : Int → Bool) (B : Nat) (a : Option Addr) (cap : Nat) (l : List Int) (w : World) (hp : ∀ n wx, Below w.heap.size w wx → Calls Try.prog 61 #[.int .i64 n, .pointer (some ⟨B, 0, none⟩)] wx fun e w' => e = .returned (.bool (p n)) ∧ Below wx.heap.size wx w') (h : SAt 1 iC w a l) (hl : l.length ≤ 9223372036854775807) :
    Calls Try.prog 21 #[.slice a l.length cap, .func (Fn.func 61) #[] #[.pointer (some ⟨B, 0, none⟩)]] w fun e w' => e = .returned (.bool (l.any p)) ∧ Below w.heap.size w w' := by
  have HI := Lib.hid (indexKid_any p B a cap l w hp h hl)
  clear hp h
  go_enter Try.func21, Try.ntmps21
  go_wp2_with fail
  refine HI.out.mono ?_
  rintro e w' ⟨r, rfl, hb, h1, h2, hr⟩
  rcases hr with ⟨rfl, hr⟩ | ⟨h0, x, hx, hr⟩
  · have HR : Hid (l.any p = false) := by show _ = _; rw [List.any_eq_false]; intro x hx; simp [hr x hx]
    clear hr
    go_wp2_with fail
    go_ret
    exact ⟨by rw [HR.out]; rfl, hb⟩
  · have HR : Hid (l.any p = true) := List.any_eq_true.2 ⟨x, hx, hr⟩
    clear hr
    go_wp2_with fail
    go_ret
    exact ⟨by rw [HR.out]; rfl, hb⟩
set_option maxRecDepth 100000 in
theorem indexRoot_any (p : Int → Bool) (B : Nat) (a : Option Addr) (cap : Nat) (l : List Int) (w : World) (hp : ∀ n wx, Below w.heap.size w wx → Calls Try.prog 45 #[.int .i64 n, .pointer (some ⟨B, 0, none⟩)] wx fun e w' => e = .returned (.bool (p n)) ∧ Below wx.heap.size wx w') (h : SAt 1 iC w a l) (hl : l.length ≤ 9223372036854775807) :
    Calls Try.prog 42 #[.slice a l.length cap, .func (Fn.func 45) #[] #[.pointer (some ⟨B, 0, none⟩)]] w (Idx p l w) := by
  have HP := Lib.hid hp
  have HS := Lib.hid h
  clear hp h
  go_enter Try.func42, Try.ntmps42
  go_wp2_with fail
  go_loopw [8] (fun iv wr => ∃ i : Nat, i ≤ l.length ∧ iv = .int .i64 (i : Int) ∧ Below w.heap.size w wr ∧ ∀ x ∈ l.take i, p x = false) (fun iv _ => l.length - (intOf iv).toNat)
  case atStart => exact ⟨0, by omega, rfl, Below.refl _ _, by simp⟩
  case round =>
    obtain ⟨i, hi, rfl, hbr, hall⟩ := hrel
    have HBR := Lib.hid hbr
    have HALL := Lib.hid hall
    clear hbr hall
    by_cases hlt : i < l.length
    · have m1 : (i : Int) < (l.length : Int) := by omega
      obtain ⟨g, off, rfl, hg, hr⟩ := (HS.out.below HBR.out).int i hlt
      have HMEM : Hid (l[i] ∈ l) := List.getElem_mem hlt
      have HST : Hid (p l[i] = false → ∀ x ∈ l.take (i + 1), p x = false) := fun h x hx => by
        rw [List.take_succ_eq_append_getElem hlt] at hx
        rcases List.mem_append.1 hx with hx | hx
        · exact HALL.out x hx
        · simp only [List.mem_singleton] at hx; rw [hx]; exact h
      generalize l[i] = t at *
      have HPT := Lib.hid (HP.out t wr HBR.out)
      clear hg
      cases hq : p t with
      | true =>
        rw [hq] at HPT
        have HQ := Lib.hid hq
        clear hq
        go_wp2_with fail
        refine HPT.out.mono ?_
        rintro e w' ⟨rfl, hb'⟩
        have HB' := Lib.hid (Below.step HBR.out hb')
        clear hb'
        go_wp2_with fail
        go_ret
        exact ⟨(i : Int), rfl, HB'.out, by omega, by omega, .inr ⟨by omega, t, HMEM.out, HQ.out⟩⟩
      | false =>
        rw [hq] at HPT
        have HQ := Lib.hid (HST.out hq)
        clear hq
        go_wp2_with fail
        refine HPT.out.mono ?_
        rintro e w' ⟨rfl, hb'⟩
        have HB' := Lib.hid (Below.step HBR.out hb')
        clear hb'
        go_wp2_with fail
        go_roundw
        case rel => exact ⟨i + 1, by omega, by go_num, HB'.out, HQ.out⟩
        case measure => simp [intOf]; omega
    · have m1 : ¬ (i : Int) < (l.length : Int) := by omega
      have HE : Hid (∀ x ∈ l, p x = false) := by
        have h := HALL.out
        rwa [List.take_of_length_le (by omega)] at h
      go_wp2_with fail
      go_ret
      exact ⟨-1, rfl, HBR.out, by omega, by omega, .inl ⟨rfl, HE.out⟩⟩
theorem containsRoot_any (p : Int → Bool) (B : Nat) (a : Option Addr) (cap : Nat) (l : List Int) (w : World) (hp : ∀ n wx, Below w.heap.size w wx → Calls Try.prog 45 #[.int .i64 n, .pointer (some ⟨B, 0, none⟩)] wx fun e w' => e = .returned (.bool (p n)) ∧ Below wx.heap.size wx w') (h : SAt 1 iC w a l) (hl : l.length ≤ 9223372036854775807) :
    Calls Try.prog 21 #[.slice a l.length cap, .func (Fn.func 45) #[] #[.pointer (some ⟨B, 0, none⟩)]] w fun e w' => e = .returned (.bool (l.any p)) ∧ Below w.heap.size w w' := by
  have HI := Lib.hid (indexRoot_any p B a cap l w hp h hl)
  clear hp h
  go_enter Try.func21, Try.ntmps21
  go_wp2_with fail
  refine HI.out.mono ?_
  rintro e w' ⟨r, rfl, hb, h1, h2, hr⟩
  rcases hr with ⟨rfl, hr⟩ | ⟨h0, x, hx, hr⟩
  · have HR : Hid (l.any p = false) := by show _ = _; rw [List.any_eq_false]; intro x hx; simp [hr x hx]
    clear hr
    go_wp2_with fail
    go_ret
    exact ⟨by rw [HR.out]; rfl, hb⟩
  · have HR : Hid (l.any p = true) := List.any_eq_true.2 ⟨x, hx, hr⟩
    clear hr
    go_wp2_with fail
    go_ret
    exact ⟨by rw [HR.out]; rfl, hb⟩
end Go.Proofs.Ytgoocmocdimnoaa
