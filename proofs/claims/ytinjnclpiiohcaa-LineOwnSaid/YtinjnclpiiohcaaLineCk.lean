/- The walks of line.checkSender and line.checkReceiver. -/
import Derived.Test.YtinjnclpiiohcaaPkBase
import Derived.Test.YtinjnclpiiohcaaMem
namespace Go.Proofs.Ytinjnclpiiohcaa
open Go.RowKit Plain
set_option linter.unusedVariables false
set_option linter.unusedSimpArgs false
theorem SAt.cell1 {α : Type} {c : α → List Value} {w : World} {a : Option Addr} {l : List α} (v : α → Value) (hc : ∀ y, c y = [v y]) (h : SAt 1 c w a l) (i : Nat) (hi : i < l.length) (x : α) (hx : l[i] = x) : ∃ g off, a = some ⟨g, off, none⟩ ∧ g < w.heap.size ∧ w.cell? ⟨g, off + i, none⟩ = some (v x) := by
  obtain ⟨g, off, e, hg, hr⟩ := h i hi
  subst hx
  have := hr 0 (v l[i]) (by rw [hc]; rfl)
  exact ⟨g, off, e, hg, by simpa using this⟩
def SOk (T : List ByteArray) (had : List Bool) (b : Int) : Prop := T.length ≤ 2000 ∧ had.length = T.length ∧ 0 ≤ b ∧ b ≤ T.length ∧ (∀ j (h : j < T.length), T[j].size ≤ 1024) ∧ ∀ j : Nat, (j : Int) < b → had[j]? = some true
def CkEnd (w0 : World) (P : Prop) (e : Ending) (w : World) : Prop := ∃ c : Nat, e = .returned (.int .i64 (c : Int)) ∧ (c = 0 ↔ P) ∧ Below w0.heap.size w0 w
set_option maxRecDepth 100000 in
set_option maxHeartbeats 2000000 in
theorem csender_any (ta ha : Option Addr) (tc hc : Nat) (T : List ByteArray) (had : List Bool) (b : Int) (w : World) (ht : SAt 1 stC w ta T) (hh : SAt 1 boC w ha had) (nt : T.length ≤ 9223372036854775807) (nh : had.length ≤ 9223372036854775807) :
    Calls Try.prog 45 #[.agg #[.slice ta T.length tc, .slice ha had.length hc, .int .i64 b]] w (CkEnd w (SOk T had b)) := by
  have HB := Lib.hid ((Below.refl w.heap.size w).alloc (Nat.le_refl _) (.cells #[.slice ta T.length tc, .slice ha had.length hc, .int .i64 b] 25))
  have HT := Lib.hid (ht.below HB.out)
  have HH := Lib.hid (hh.below HB.out)
  clear ht hh
  by_cases h1 : T.length ≤ 2000
  · have f1 : ¬ ((T.length : Int) > 2000) := by omega
    by_cases h2 : had.length = T.length
    · have f2 : ((had.length : Int) != (T.length : Int)) = false := by simp [h2]
      by_cases h3 : 0 ≤ b
      · have f3 : ¬ (b < 0) := by omega
        by_cases h4 : b ≤ T.length
        · have f4 : ¬ (b > (T.length : Int)) := by omega
          have HH2 : Hid (had.length = T.length) := h2
          have HX := Lib.hid (⟨h1, h2, h3, h4⟩ : T.length ≤ 2000 ∧ had.length = T.length ∧ 0 ≤ b ∧ b ≤ T.length)
          clear h2 h3 h4
          go_enter Try.func45, Try.ntmps45
          go_wp2_with fail
          go_loopw [34] (fun iv wr => ∃ i : Nat, i ≤ T.length ∧ iv = .int .i64 (i : Int) ∧ wr = w.alloc (.cells #[.slice ta T.length tc, .slice ha had.length hc, .int .i64 b] 25) ∧ Hid (∀ j (h : j < T.length), j < i → T[j].size ≤ 1024 ∧ ((j : Int) < b → had[j]? = some true))) (fun iv _ => T.length - (intOf iv).toNat)
          case atStart => exact ⟨0, by omega, rfl, by first | rfl | trivial, Lib.hid (fun j h hj => by omega)⟩
          case round =>
            obtain ⟨i, hi, rfl, hwr, HI⟩ := hrel
            have HROW : Hid (wr.heap[w.heap.size]? = some (.cells #[.slice ta T.length tc, .slice ha had.length hc, .int .i64 b] 25 (0, 0))) := by
              show _ = _
              rw [hwr]
              exact heap_alloc_new w _
            have HTT : Hid (SAt 1 stC wr ta T) := by show SAt _ _ _ _ _; rw [hwr]; exact HT.out
            have HHH : Hid (SAt 1 boC wr ha had) := by show SAt _ _ _ _ _; rw [hwr]; exact HH.out
            have HWR := Lib.hid hwr
            clear hwr
            have q0 := cell_of_row _ _ 0 _ _ _ HROW.out
            have q1 := cell_of_row _ _ 1 _ _ _ HROW.out
            have q2 := cell_of_row _ _ 2 _ _ _ HROW.out
            simp only [List.getElem?_toArray, List.getElem?_cons_succ, List.getElem?_cons_zero] at q0 q1 q2
            by_cases hil : i < T.length
            · have m1 : (i : Int) < (T.length : Int) := by omega
              have m0 : (0 : Int) ≤ (i : Int) := Int.natCast_nonneg _
              obtain ⟨x, hx⟩ : ∃ x, T[i] = x := ⟨_, rfl⟩
              obtain ⟨g, off, rfl, hg, c0⟩ := SAt.cell1 (fun s => .string s) (fun _ => rfl) HTT.out i hil x hx
              have HXE := Lib.hid hx
              clear hx hg
              by_cases hsz : x.size ≤ 1024
              · have f5 : ¬ ((x.size : Int) > 1024) := by omega
                have HSZ : Hid (T[i].size ≤ 1024) := by show _ ≤ _; rw [HXE.out]; exact hsz
                clear hsz
                by_cases hib : (i : Int) < b
                · obtain ⟨y, hy⟩ : ∃ y, had[i]'(by have := HH2.out; omega) = y := ⟨_, rfl⟩
                  obtain ⟨g2, off2, rfl, hg2, c1⟩ := SAt.cell1 (fun s => .bool s) (fun _ => rfl) HHH.out i (by have := HH2.out; omega) y hy
                  have mh : (i : Int) < (had.length : Int) := by have := HH2.out; omega
                  have HYE : Hid (had[i]? = some y) := by show _ = _; rw [List.getElem?_eq_getElem (by have := HH2.out; omega), hy]
                  clear hy hg2
                  cases y with
                  | true =>
                    go_wp2_with fail
                    go_roundw
                    case rel => exact ⟨i + 1, by omega, by go_num, HWR.out, Lib.hid (fun j h hj => by
                      rcases Nat.lt_or_ge j i with h5 | h5
                      · exact HI.out j h h5
                      · obtain rfl : j = i := by omega
                        exact ⟨HSZ.out, fun _ => HYE.out⟩)⟩
                    case measure => simp [intOf]; omega
                  | false =>
                    have HN : Hid (¬ SOk T had b) := fun h => by have := h.2.2.2.2.2 i hib; rw [HYE.out] at this; cases this
                    go_wp2_with fail
                    go_ret
                    exact ⟨4, rfl, by simp [HN.out], by rw [HWR.out]; exact HB.out⟩
                · have HIB := Lib.hid hib
                  go_wp2_with fail
                  go_roundw
                  case rel => exact ⟨i + 1, by omega, by go_num, HWR.out, Lib.hid (fun j h hj => by
                    rcases Nat.lt_or_ge j i with h5 | h5
                    · exact HI.out j h h5
                    · obtain rfl : j = i := by omega
                      exact ⟨HSZ.out, fun h => absurd h HIB.out⟩)⟩
                  case measure => simp [intOf]; omega
              · have f5 : ((x.size : Int) > 1024) := by omega
                have HN : Hid (¬ SOk T had b) := fun h => hsz (by have := h.2.2.2.2.1 i hil; rw [HXE.out] at this; exact this)
                clear hsz
                go_wp2_with fail
                go_ret
                exact ⟨2, rfl, by simp [HN.out], by rw [HWR.out]; exact HB.out⟩
            · have m1 : ¬ (i : Int) < (T.length : Int) := by omega
              have HOK : Hid (SOk T had b) := ⟨HX.out.1, HX.out.2.1, HX.out.2.2.1, HX.out.2.2.2, fun j h => (HI.out j h (by omega)).1, fun j h => by
                have hb := HX.out.2.2.2
                exact (HI.out j (by omega) (by omega)).2 h⟩
              go_wp2_with fail
              go_ret
              exact ⟨0, rfl, by simp [HOK.out], by rw [HWR.out]; exact HB.out⟩
        · have f4 : (b > (T.length : Int)) := by omega
          have HN : Hid (¬ SOk T had b) := fun h => h4 h.2.2.2.1
          clear h4 h2
          go_enter Try.func45, Try.ntmps45
          go_wp2_with fail
          go_ret
          exact ⟨1, rfl, by simp [HN.out], HB.out⟩
      · have f3 : (b < 0) := by omega
        have HN : Hid (¬ SOk T had b) := fun h => h3 h.2.2.1
        clear h3 h2
        go_enter Try.func45, Try.ntmps45
        go_wp2_with fail
        go_ret
        exact ⟨1, rfl, by simp [HN.out], HB.out⟩
    · have f2 : ((had.length : Int) != (T.length : Int)) = true := by simp; omega
      have HN : Hid (¬ SOk T had b) := fun h => h2 h.2.1
      clear h2
      go_enter Try.func45, Try.ntmps45
      go_wp2_with fail
      go_ret
      exact ⟨1, rfl, by simp [HN.out], HB.out⟩
  · have f1 : ((T.length : Int) > 2000) := by omega
    have HN : Hid (¬ SOk T had b) := fun h => h1 h.1
    clear h1
    go_enter Try.func45, Try.ntmps45
    go_wp2_with fail
    go_ret
    exact ⟨1, rfl, by simp [HN.out], HB.out⟩
/-- the held packets rise above n -/
def Rises (n : Int) (l : List PkT) : Prop := ∀ j (h : j < l.length), (if j = 0 then n else (l[j - 1]'(by omega)).2.1) < l[j].2.1
def ROk (n : Nat) (l : List PkT) : Prop := n ≤ 2000 ∧ l.length ≤ 8 ∧ Rises n l
theorem SAt.packet {w : World} {a : Option Addr} {l : List PkT} (h : SAt 3 pkC w a l) (i : Nat) (hi : i < l.length) (p : PkT) (hp : l[i] = p) : ∃ g off, a = some ⟨g, off, none⟩ ∧ g < w.heap.size ∧
    w.cell? ⟨g, off + i * 3, none⟩ = some (.int .i64 p.1) ∧ w.cell? ⟨g, off + i * 3 + 1, none⟩ = some (.int .i64 p.2.1) ∧ w.cell? ⟨g, off + i * 3 + 2, none⟩ = some (.string p.2.2) := by
  obtain ⟨g, off, e, hg, hr⟩ := h i hi
  subst hp
  exact ⟨g, off, e, hg, hr 0 _ rfl, hr 1 _ rfl, hr 2 _ rfl⟩
set_option maxRecDepth 100000 in
set_option maxHeartbeats 2000000 in
theorem creceiver_any (ga la : Option Addr) (gn gc lc : Nat) (l : List PkT) (w : World) (hl : SAt 3 pkC w la l) (ng : gn ≤ 9223372036854775807) (nl : l.length ≤ 9223372036854775807) :
    Calls Try.prog 48 #[.agg #[.slice ga gn gc, .slice la l.length lc]] w (CkEnd w (ROk gn l)) := by
  have HB := Lib.hid ((Below.refl w.heap.size w).alloc (Nat.le_refl _) (.cells #[.slice ga gn gc, .slice la l.length lc] 28))
  have HL := Lib.hid hl
  clear hl
  by_cases h1 : gn ≤ 2000
  · have f1 : ¬ ((gn : Int) > 2000) := by omega
    by_cases h2 : l.length ≤ 8
    · have f2 : ¬ ((l.length : Int) > 8) := by omega
      go_enter Try.func48, Try.ntmps48
      go_wp2_with fail
      go_loopw [3, 22] (fun xv iv wr => ∃ (i : Nat) (x : Int), i ≤ l.length ∧ xv = .int .i64 x ∧ iv = .int .i64 (i : Int) ∧ Hid (Below w.heap.size w wr) ∧ Hid (x = if i = 0 then (gn : Int) else (l[i - 1]?.getD (0, 0, ⟨#[]⟩)).2.1) ∧ Hid (∀ j (h : j < l.length), j < i → (if j = 0 then (gn : Int) else (l[j - 1]'(by omega)).2.1) < l[j].2.1)) (fun _ iv _ => l.length - (intOf iv).toNat)
      case atStart => exact ⟨0, gn, by omega, rfl, rfl, HB, Lib.hid rfl, Lib.hid (fun j h hj => by omega)⟩
      case round =>
        obtain ⟨i, x, hi, rfl, rfl, HBR, HX, HI⟩ := hrel
        by_cases hil : i < l.length
        · have m1 : (i : Int) < (l.length : Int) := by omega
          have m0 : (0 : Int) ≤ (i : Int) := Int.natCast_nonneg _
          obtain ⟨p, hp⟩ : ∃ p, l[i] = p := ⟨_, rfl⟩
          obtain ⟨g, off, rfl, hg, c0, c1, c2⟩ := (HL.out.below HBR.out).packet i hil p hp
          have HPE := Lib.hid hp
          have HXL : Hid ((if i = 0 then (gn : Int) else (l[i - 1]'(by omega)).2.1) = x) := by
            show _ = _
            rw [HX.out]
            by_cases h0 : i = 0
            · simp [h0]
            · rw [if_neg h0, if_neg h0, List.getElem?_eq_getElem (by omega)]; rfl
          clear hp hg
          obtain ⟨k, q, t⟩ := p
          have HBA := Lib.hid (HBR.out.alloc HBR.out.size (.cells #[.int .i64 k, .int .i64 q, .string t] 30))
          by_cases hq : q ≤ x
          · have HN : Hid (¬ ROk gn l) := fun h => by
              have := h.2.2 i hil
              rw [HXL.out, HPE.out] at this
              simp only at this
              omega
            clear HXL
            go_wp2_with fail
            go_ret
            exact ⟨4, rfl, by simp [HN.out], HBA.out⟩
          · have HNX : Hid (∀ j (h : j < l.length), j < i + 1 → (if j = 0 then (gn : Int) else (l[j - 1]'(by omega)).2.1) < l[j].2.1) := fun j h hj => by
              rcases Nat.lt_or_ge j i with h5 | h5
              · exact HI.out j h h5
              · obtain rfl : j = i := by omega
                rw [HXL.out, HPE.out]
                simp only
                omega
            have HNV : Hid (q = if i + 1 = 0 then (gn : Int) else (l[i + 1 - 1]?.getD (0, 0, ⟨#[]⟩)).2.1) := by
              show _ = _
              rw [if_neg (by omega), Nat.add_sub_cancel, List.getElem?_eq_getElem hil, HPE.out]
              rfl
            clear HXL HI HX
            go_wp2_with fail
            go_roundw
            case rel => exact ⟨i + 1, q, by omega, rfl, by go_num, HBA, HNV, HNX⟩
            case measure => simp [intOf]; omega
        · have m1 : ¬ (i : Int) < (l.length : Int) := by omega
          have HOK : Hid (ROk gn l) := ⟨h1, h2, fun j h => HI.out j h (by omega)⟩
          clear HI HX
          go_wp2_with fail
          go_ret
          exact ⟨0, rfl, by simp [HOK.out], HBR.out⟩
    · have f2 : ((l.length : Int) > 8) := by omega
      have HN : Hid (¬ ROk gn l) := fun h => h2 h.2.1
      clear h2
      go_enter Try.func48, Try.ntmps48
      go_wp2_with fail
      go_ret
      exact ⟨2, rfl, by simp [HN.out], HB.out⟩
  · have f1 : ((gn : Int) > 2000) := by omega
    have HN : Hid (¬ ROk gn l) := fun h => h1 h.1
    clear h1
    go_enter Try.func48, Try.ntmps48
    go_wp2_with fail
    go_ret
    exact ⟨2, rfl, by simp [HN.out], HB.out⟩
end Go.Proofs.Ytinjnclpiiohcaa
