/- The walks of graph.Check and Reach; graphs in memory. -/
import Derived.Test.YtgoocmocdimnoaaGraphPlain
import Derived.Test.YtgoocmocdimnoaaInts
import Derived.Test.YtgoocmocdimnoaaMem
import Derived.Laws.AppendOwnNone
namespace Go.Proofs.Ytgoocmocdimnoaa
open Go.RowKit Plain
/-- a row of a graph in memory: where it lies, its capacity, its numbers -/
abbrev GRow := Option Addr × Nat × List Int
def gC (r : GRow) : List Value := [.slice r.1 r.2.2.length r.2.1]
theorem gC_length (r : GRow) : (gC r).length = 1 := rfl
/-- a graph in memory -/
def GAt (w : World) (a : Option Addr) (rows : List GRow) : Prop := SAt 1 gC w a rows ∧ ∀ r ∈ rows, SAt 1 iC w r.1 r.2.2 ∧ r.2.2.length ≤ 9223372036854775807
/-- its rows' numbers -/
def gK (rows : List GRow) : List (List Int) := rows.map (·.2.2)
theorem gK_length (rows : List GRow) : (gK rows).length = rows.length := by simp [gK]
theorem gK_getD (rows : List GRow) (i : Nat) (hi : i < rows.length) : (gK rows).getD i [] = rows[i].2.2 := by
  simp [gK, List.getD_eq_getElem?_getD, List.getElem?_eq_getElem hi]
theorem GAt.below {w w' : World} {a : Option Addr} {rows : List GRow} (h : GAt w a rows) (hb : Below w.heap.size w w') : GAt w' a rows :=
  ⟨h.1.below hb, fun r hr => ⟨(h.2 r hr).1.below hb, (h.2 r hr).2⟩⟩
theorem GAt.row {w : World} {a : Option Addr} {rows : List GRow} (h : GAt w a rows) (i : Nat) (hi : i < rows.length) :
    ∃ g off, a = some ⟨g, off, none⟩ ∧ g < w.heap.size ∧ w.cell? ⟨g, off + i, none⟩ = some (.slice rows[i].1 rows[i].2.2.length rows[i].2.1) ∧ SAt 1 iC w rows[i].1 rows[i].2.2 ∧ rows[i].2.2.length ≤ 9223372036854775807 := by
  obtain ⟨g, off, e, hg, hr⟩ := h.1 i hi
  have := hr 0 _ rfl
  exact ⟨g, off, e, hg, by rwa [Nat.mul_one, Nat.add_zero] at this, h.2 _ (List.getElem_mem hi)⟩
/-- what Check answers -/
def ChkEnd (w0 : World) (ks : List (List Int)) (e : Ending) (w : World) : Prop := ∃ c : Nat, e = .returned (.int .i64 (c : Int)) ∧ c ≤ 2 ∧ (c = 0 ↔ Gok ks) ∧ Below w0.heap.size w0 w
theorem gok_not_row {ks : List (List Int)} {r : List Int} (hr : r ∈ ks) (h : 64 < r.length) : ¬ Gok ks := fun hg => by have := (hg.2 r hr).1; omega
theorem gok_not_kid {ks : List (List Int)} {r : List Int} {k : Int} (hr : r ∈ ks) (hk : k ∈ r) (h : k < 0 ∨ (ks.length : Int) ≤ k) : ¬ Gok ks := fun hg => by have := (hg.2 r hr).2 k hk; omega
set_option maxRecDepth 100000 in
set_option maxHeartbeats 1000000 in
theorem gcheck_any (a : Option Addr) (cap : Nat) (rows : List GRow) (w : World) (h : GAt w a rows) (hl : rows.length ≤ 9223372036854775807) :
    Calls Try.prog 17 #[.slice a rows.length cap] w (ChkEnd w (gK rows)) := by
  have HG := Lib.hid h
  clear h
  by_cases c1 : 200 < rows.length
  · have n1 : 200 < (rows.length : Int) := by omega
    have HR : Hid (¬ Gok (gK rows)) := fun hg => by have := hg.1; rw [gK_length] at this; omega
    go_enter Try.func17, Try.ntmps17
    go_wp2
    go_ret
    exact ⟨2, rfl, by omega, ⟨(fun h => by cases h), fun h => absurd h HR.out⟩, Below.refl _ _⟩
  · have n1 : ¬ 200 < (rows.length : Int) := by omega
    have hln : (gK rows).length = rows.length := gK_length rows
    have HLN := Lib.hid hln
    clear hln
    go_enter Try.func17, Try.ntmps17
    go_wp2_with fail
    go_loop [12] (fun iv => ∃ i : Nat, iv = .int .i64 (i : Int) ∧ i ≤ rows.length ∧ ∀ r ∈ (gK rows).take i, r.length ≤ 64 ∧ ∀ k ∈ r, 0 ≤ k ∧ k < rows.length) (fun iv => rows.length - (intOf iv).toNat)
    case atStart => exact ⟨0, rfl, by omega, by simp⟩
    case round =>
      obtain ⟨i, rfl, hi, hall⟩ := hrel
      have HALL := Lib.hid hall
      clear hall
      by_cases hlt : i < rows.length
      · have m1 : (i : Int) < (rows.length : Int) := by omega
        obtain ⟨g, off, rfl, hg, hr, hsr, hsl⟩ := HG.out.row i hlt
        have HMEM : Hid (rows[i].2.2 ∈ gK rows) := List.mem_map_of_mem (List.getElem_mem hlt)
        have HST : Hid ((gK rows).take (i + 1) = (gK rows).take i ++ [rows[i].2.2]) := by
          show _ = _
          rw [List.take_succ_eq_append_getElem (by rw [HLN.out]; exact hlt)]
          simp [gK]
        generalize rows[i] = r at *
        obtain ⟨ra, rc, row⟩ := r
        have HSR := Lib.hid hsr
        clear hsr hg
        by_cases hlen : 64 < row.length
        · have k1 : 64 < (row.length : Int) := by omega
          have HR := Lib.hid (gok_not_row HMEM.out hlen)
          go_wp2_with fail
          go_ret
          exact ⟨2, rfl, by omega, ⟨(fun h => by cases h), fun h => absurd h HR.out⟩, Below.refl _ _⟩
        · have k1 : ¬ 64 < (row.length : Int) := by omega
          go_wp2_with fail
          go_loop [21] (fun jv => ∃ j : Nat, jv = .int .i64 (j : Int) ∧ j ≤ row.length ∧ ∀ k ∈ row.take j, 0 ≤ k ∧ k < rows.length) (fun jv => row.length - (intOf jv).toNat)
          case atStart => exact ⟨0, rfl, by omega, by simp⟩
          case round =>
            obtain ⟨j, rfl, hj, hallq⟩ := hrel
            have HALLQ := Lib.hid hallq
            clear hallq hr
            by_cases hjl : j < row.length
            · have m2 : (j : Int) < (row.length : Int) := by omega
              obtain ⟨g2, off2, rfl, hg2, hr2⟩ := HSR.out.int j hjl
              have HKM : Hid (row[j] ∈ row) := List.getElem_mem hjl
              have HSQ : Hid (row.take (j + 1) = row.take j ++ [row[j]]) := List.take_succ_eq_append_getElem hjl
              generalize row[j] = k at *
              clear hg2
              by_cases hk0 : k < 0
              · have HR := Lib.hid (gok_not_kid HMEM.out HKM.out (.inl hk0))
                go_wp2_with fail
                go_ret
                exact ⟨1, rfl, by omega, ⟨(fun h => by cases h), fun h => absurd h HR.out⟩, Below.refl _ _⟩
              · by_cases hk1 : (rows.length : Int) ≤ k
                · have HR := Lib.hid (gok_not_kid HMEM.out HKM.out (.inr (by rw [HLN.out]; exact hk1)))
                  go_wp2_with fail
                  go_ret
                  exact ⟨1, rfl, by omega, ⟨(fun h => by cases h), fun h => absurd h HR.out⟩, Below.refl _ _⟩
                · have HN : Hid (∀ x ∈ row.take (j + 1), 0 ≤ x ∧ x < rows.length) := fun x hx => by
                    rw [HSQ.out] at hx
                    rcases List.mem_append.1 hx with hx | hx
                    · exact HALLQ.out x hx
                    · simp only [List.mem_singleton] at hx; subst hx; omega
                  go_wp2_with fail
                  go_round
                  case rel => exact ⟨j + 1, by go_num, by omega, HN.out⟩
                  case measure => simp [intOf]; omega
            · have m2 : ¬ (j : Int) < (row.length : Int) := by omega
              have HN : Hid (∀ r ∈ (gK rows).take (i + 1), r.length ≤ 64 ∧ ∀ k ∈ r, 0 ≤ k ∧ k < rows.length) := fun x hx => by
                rw [HST.out] at hx
                rcases List.mem_append.1 hx with hx | hx
                · exact HALL.out x hx
                · simp only [List.mem_singleton] at hx
                  subst hx
                  have h := HALLQ.out
                  rw [List.take_of_length_le (by omega)] at h
                  exact ⟨by omega, h⟩
              go_wp2_with fail
              go_round
              case rel => exact ⟨i + 1, by go_num, by omega, HN.out⟩
              case measure => simp [intOf]; omega
      · have m1 : ¬ (i : Int) < (rows.length : Int) := by omega
        have HR : Hid (Gok (gK rows)) := by
          have h := HALL.out
          rw [List.take_of_length_le (by rw [HLN.out]; omega)] at h
          exact ⟨by rw [HLN.out]; omega, fun r hr => by rw [HLN.out]; exact h r hr⟩
        go_wp2_with fail
        go_ret
        exact ⟨0, rfl, by omega, ⟨fun _ => HR.out, fun _ => rfl⟩, Below.refl _ _⟩
end Go.Proofs.Ytgoocmocdimnoaa
