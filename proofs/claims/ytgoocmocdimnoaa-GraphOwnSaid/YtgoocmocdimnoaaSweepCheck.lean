/- The walks of sweep's check and Check. -/
import Derived.Test.YtgoocmocdimnoaaSweepRead
import Derived.Test.YtgoocmocdimnoaaGraphOpen
namespace Go.Proofs.Ytgoocmocdimnoaa
open Go.RowKit Plain
set_option linter.unusedVariables false
theorem any_there (ts : List Thg) (l : List Int) : (l.any fun k => !thereB ts k) = false ↔ ∀ k ∈ l, There ts k := by
  rw [List.any_eq_false]
  constructor
  · intro h k hk
    have := h k hk
    rw [← thereB_iff]
    simpa using this
  · intro h k hk
    have := thereB_iff.2 (h k hk)
    simp [this]
def TCkEnd (w0 : World) (ts : List Thg) (t : Thg) (e : Ending) (w : World) : Prop := ∃ c : Nat, e = .returned (.int .i64 (c : Int)) ∧ c ≤ 4 ∧ (c = 0 ↔ TOk ts t) ∧ Below w0.heap.size w0 w
set_option maxRecDepth 100000 in
set_option maxHeartbeats 1000000 in
theorem tcheck_any (a : Option Addr) (tc : Nat) (rows : List TRow) (b : Option Addr) (m rc : Nat) (bz : Bool) (ka : Option Addr) (kc : Nat) (kids : List Int) (col : Int) (fr : Bool) (w : World) (h : SAt 3 tcC w a rows) (hl : rows.length ≤ 9223372036854775807) (hk : SAt 1 iC w ka kids) (hkl : kids.length ≤ 9223372036854775807) :
    Calls Try.prog 44 #[.agg #[.slice a rows.length tc, .slice b m rc, .bool bz], .agg #[.slice ka kids.length kc, .int .i64 col, .bool fr]] w (TCkEnd w (tK rows) (kids, col, fr)) := by
  have HB := Lib.hid (((Below.refl w.heap.size w).alloc (Nat.le_refl _) (.cells #[.slice a rows.length tc, .slice b m rc, .bool bz] 41)).alloc (by simp) (.cells #[.slice ka kids.length kc, .int .i64 col, .bool fr] 47))
  have HBX := Lib.hid ((heap_two w (.cells #[.slice a rows.length tc, .slice b m rc, .bool bz] 41) (.cells #[.slice ka kids.length kc, .int .i64 col, .bool fr] 47)).1)
  have HS := Lib.hid h
  have HK := Lib.hid hk
  clear h hk
  by_cases h64 : 64 < kids.length
  · have m1 : 64 < (kids.length : Int) := by omega
    have HR : Hid (¬ TOk (tK rows) (kids, col, fr)) := fun h => by have := h.1; simp only at this; omega
    go_enter Try.func44, Try.ntmps44
    go_wp2_with fail
    go_ret
    exact ⟨2, rfl, by decide, ⟨(fun h => by cases h), fun h => absurd h HR.out⟩, HB.out⟩
  · have m1 : ¬ 64 < (kids.length : Int) := by omega
    by_cases hc : col < 0 ∨ 2 < col ∨ (fr = true ∧ (0 < kids.length ∨ col ≠ 0))
    · have HR : Hid (¬ TOk (tK rows) (kids, col, fr)) := fun h => by
        obtain ⟨h1, h2, h3, h4, _⟩ := h
        simp only at h1 h2 h3 h4
        rcases hc with hc | hc | ⟨hc, hc2⟩
        · omega
        · omega
        · obtain ⟨e1, e2⟩ := h4 hc
          rw [e1] at hc2
          rcases hc2 with hc2 | hc2
          · simp at hc2
          · exact hc2 e2
      by_cases h1 : col < 0
      · clear hc
        go_enter Try.func44, Try.ntmps44
        go_wp2_with fail
        go_ret
        exact ⟨4, rfl, by decide, ⟨(fun h => by cases h), fun h => absurd h HR.out⟩, HB.out⟩
      · by_cases h2 : 2 < col
        · clear hc
          go_enter Try.func44, Try.ntmps44
          go_wp2_with fail
          go_ret
          exact ⟨4, rfl, by decide, ⟨(fun h => by cases h), fun h => absurd h HR.out⟩, HB.out⟩
        · obtain ⟨rfl, h3⟩ : fr = true ∧ (0 < kids.length ∨ col ≠ 0) := by
            rcases hc with hc | hc | hc
            · exact absurd hc h1
            · exact absurd hc h2
            · exact hc
          by_cases h4 : 0 < kids.length
          · have m2 : 0 < (kids.length : Int) := by omega
            clear hc h3
            go_enter Try.func44, Try.ntmps44
            go_wp2_with fail
            go_ret
            exact ⟨4, rfl, by decide, ⟨(fun h => by cases h), fun h => absurd h HR.out⟩, HB.out⟩
          · have m2 : ¬ 0 < (kids.length : Int) := by omega
            have m3 : (col != 0) = true := by simp; omega
            have m4 : ¬ col = 0 := by omega
            clear hc h3
            go_enter Try.func44, Try.ntmps44
            go_wp2_with fail
            go_ret
            exact ⟨4, rfl, by decide, ⟨(fun h => by cases h), fun h => absurd h HR.out⟩, HB.out⟩
    · have h1 : ¬ col < 0 := fun h => hc (.inl h)
      have h2 : ¬ 2 < col := fun h => hc (.inr (.inl h))
      have HKT := Lib.hid fun (u : World) (hu : Below w.heap.size w u) (hB : u.heap[w.heap.size]? = some (.cells #[.slice a rows.length tc, .slice b m rc, .bool bz] 41 (0, 0))) =>
        containsKid_any (fun k => !thereB (tK rows) k) w.heap.size ka kc kids u (fun n wx hx => ckid_any a tc rows b m rc bz n w.heap.size wx ((HS.out.below hu).below hx) hl ((hx.block _ (lt_of_block hB)).trans hB)) (HK.out.below hu) hkl
      have HCON := Lib.hid (HKT.out _ HB.out HBX.out)
      have HAT := Lib.hid (any_there (tK rows) kids)
      obtain ⟨r, hr⟩ : ∃ r, (kids.any fun k => !thereB (tK rows) k) = r := ⟨_, rfl⟩
      rw [hr] at HCON HAT
      have HR : Hid ((if r = true then 1 else 0) = 0 ↔ TOk (tK rows) (kids, col, fr)) := by
        show _ ↔ _
        cases r with
        | true => exact ⟨(fun h => by cases h), fun h => absurd (HAT.out.2 h.2.2.2.2) (by simp)⟩
        | false =>
          refine ⟨fun _ => ⟨by show kids.length ≤ 64; omega, by show 0 ≤ col; omega, by show col ≤ 2; omega, fun hf => ?_, HAT.out.1 rfl⟩, fun _ => rfl⟩
          simp only at hf
          by_cases hk0 : kids.length = 0
          · refine ⟨List.eq_nil_of_length_eq_zero hk0, ?_⟩
            by_cases hc0 : col = 0
            · exact hc0
            · exact absurd (.inr (.inr ⟨hf, .inr hc0⟩)) hc
          · exact absurd (.inr (.inr ⟨hf, .inl (by omega)⟩)) hc
      have HC := Lib.hid hc
      clear hr hc
      have fin : ∀ w', Below w.heap.size w w' → TCkEnd w (tK rows) (kids, col, fr) (.returned (.int .i64 (((if r = true then 1 else 0 : Nat)) : Int))) w' := fun w' hb => ⟨_, rfl, by split <;> decide, HR.out, hb⟩
      have HFIN := Lib.hid fin
      clear fin
      cases fr with
      | true =>
        have hk0 : kids.length = 0 := by
          apply Classical.byContradiction
          intro hk0
          exact HC.out (.inr (.inr ⟨rfl, .inl (by omega)⟩))
        have hc0 : col = 0 := by
          apply Classical.byContradiction
          intro hk0
          exact HC.out (.inr (.inr ⟨rfl, .inr hk0⟩))
        obtain rfl := List.eq_nil_of_length_eq_zero hk0
        clear hk0
        subst hc0
        go_enter Try.func44, Try.ntmps44
        go_wp2_with fail
        refine HCON.out.mono ?_
        rintro e w1 ⟨rfl, hb⟩
        have HB1 := Lib.hid (Below.step HB.out hb)
        clear hb
        cases r with
        | true =>
          go_wp2_with fail
          go_ret
          exact HFIN.out _ HB1.out
        | false =>
          go_wp2_with fail
          go_ret
          exact HFIN.out _ HB1.out
      | false =>
        go_enter Try.func44, Try.ntmps44
        go_wp2_with fail
        refine HCON.out.mono ?_
        rintro e w1 ⟨rfl, hb⟩
        have HB1 := Lib.hid (Below.step HB.out hb)
        clear hb
        cases r with
        | true =>
          go_wp2_with fail
          go_ret
          exact HFIN.out _ HB1.out
        | false =>
          go_wp2_with fail
          go_ret
          exact HFIN.out _ HB1.out
def HCkEnd (w0 : World) (h : Hp) (e : Ending) (w : World) : Prop := ∃ c : Nat, e = .returned (.int .i64 (c : Int)) ∧ c ≤ 4 ∧ (c = 0 ↔ HOk h) ∧ Below w0.heap.size w0 w
/-- a heap's value -/
abbrev hV (a : Option Addr) (n tc : Nat) (b : Option Addr) (m rc : Nat) (bz : Bool) : Value := .agg #[.slice a n tc, .slice b m rc, .bool bz]
set_option maxRecDepth 100000 in
set_option maxHeartbeats 1000000 in
theorem hcheck_any (a : Option Addr) (tc : Nat) (rows : List TRow) (b : Option Addr) (rc : Nat) (rs : List Int) (bz : Bool) (w : World) (h : TAt w a rows) (hl : rows.length ≤ 9223372036854775807) (hk : SAt 1 iC w b rs) (hkl : rs.length ≤ 9223372036854775807) :
    Calls Try.prog 24 #[.agg #[.slice a rows.length tc, .slice b rs.length rc, .bool bz]] w (HCkEnd w (tK rows, rs, bz)) := by
  have HB := Lib.hid ((Below.refl w.heap.size w).alloc (Nat.le_refl _) (.cells #[.slice a rows.length tc, .slice b rs.length rc, .bool bz] 41))
  have HBX := Lib.hid (heap_alloc_new w (.cells #[.slice a rows.length tc, .slice b rs.length rc, .bool bz] 41))
  have HS := Lib.hid h
  have HK := Lib.hid hk
  have HLN := Lib.hid (tK_length rows)
  clear h hk
  by_cases h40 : 40 < rows.length
  · have m1 : 40 < (rows.length : Int) := by omega
    have HR : Hid (¬ HOk (tK rows, rs, bz)) := fun h => by have := h.1; simp only [tK_length] at this; omega
    go_enter Try.func24, Try.ntmps24
    go_wp2_with fail
    go_ret
    exact ⟨2, rfl, by decide, ⟨(fun h => by cases h), fun h => absurd h HR.out⟩, HB.out⟩
  · have m1 : ¬ 40 < (rows.length : Int) := by omega
    by_cases h64 : 64 < rs.length
    · have m2 : 64 < (rs.length : Int) := by omega
      have HR : Hid (¬ HOk (tK rows, rs, bz)) := fun h => by have := h.2.1; simp only at this; omega
      go_enter Try.func24, Try.ntmps24
      go_wp2_with fail
      go_ret
      exact ⟨2, rfl, by decide, ⟨(fun h => by cases h), fun h => absurd h HR.out⟩, HB.out⟩
    · have m2 : ¬ 64 < (rs.length : Int) := by omega
      go_enter Try.func24, Try.ntmps24
      go_wp2_with fail
      go_loopw [19] (fun iv wr => ∃ i : Nat, i ≤ rows.length ∧ iv = .int .i64 (i : Int) ∧ Below w.heap.size w wr ∧ wr.heap[w.heap.size]? = some (.cells #[.slice a rows.length tc, .slice b rs.length rc, .bool bz] 41 (0, 0)) ∧ ∀ t ∈ (tK rows).take i, TOk (tK rows) t) (fun iv _ => rows.length - (intOf iv).toNat)
      case atStart => exact ⟨0, by omega, rfl, HB.out, HBX.out, by simp⟩
      case round =>
        obtain ⟨i, hi, rfl, hbr, hbx, hall⟩ := hrel
        have HBR := Lib.hid hbr
        have HBXR := Lib.hid hbx
        have HALL := Lib.hid hall
        have b0 := cell_of_row wr w.heap.size 0 _ _ _ hbx
        have b1 := cell_of_row wr w.heap.size 1 _ _ _ hbx
        have b2 := cell_of_row wr w.heap.size 2 _ _ _ hbx
        simp only [List.getElem?_toArray, List.getElem?_cons_zero, List.getElem?_cons_succ] at b0 b1 b2
        clear hbr hall hbx HB HBX
        by_cases hlt : i < rows.length
        · have m3 : (i : Int) < (rows.length : Int) := by omega
          have HSR := Lib.hid (HS.out.below HBR.out)
          have HTK := Lib.hid (tK_get rows i hlt)
          have HMEM := Lib.hid (HSR.out.2 rows[i] (List.getElem_mem hlt))
          obtain ⟨g, off, rfl, hg, c0, c1, c2⟩ := HSR.out.1.thg i hlt _ rfl
          generalize rows[i] = r at *
          obtain ⟨ka, kc, kids, col, fr⟩ := r
          simp only at c0 c1 c2
          have HB2 := Lib.hid ((Below.refl wr.heap.size wr).alloc (Nat.le_refl _) (.cells #[.slice ka kids.length kc, .int .i64 col, .bool fr] 47))
          have e0 : (wr.alloc (.cells #[.slice ka kids.length kc, .int .i64 col, .bool fr] 47)).cell? ⟨w.heap.size, 0, none⟩ = _ := Lib.cell?_alloc_some _ b0
          have e1 : (wr.alloc (.cells #[.slice ka kids.length kc, .int .i64 col, .bool fr] 47)).cell? ⟨w.heap.size, 1, none⟩ = _ := Lib.cell?_alloc_some _ b1
          have e2 : (wr.alloc (.cells #[.slice ka kids.length kc, .int .i64 col, .bool fr] 47)).cell? ⟨w.heap.size, 2, none⟩ = _ := Lib.cell?_alloc_some _ b2
          have HCK := Lib.hid (tcheck_any (some ⟨g, off, none⟩) tc rows b rs.length rc bz ka kc kids col fr _ (HSR.out.below HB2.out).1 hl (HMEM.out.1.below HB2.out) HMEM.out.2)
          clear b0 b1 b2
          go_wp2_with fail
          refine HCK.out.mono ?_
          rintro e w2 ⟨c, rfl, hc4, hc0, hb⟩
          have HB3 := Lib.hid (Below.step HB2.out hb)
          have HC0 := Lib.hid hc0
          clear hb hc0 HCK c0 c1 c2 e0 e1 e2
          by_cases hc : c = 0
          · have HT := Lib.hid (HC0.out.1 hc)
            subst hc
            have HN : Hid (∀ t ∈ (tK rows).take (i + 1), TOk (tK rows) t) := fun t ht => by
              rw [List.take_add_one, HTK.out] at ht
              rcases List.mem_append.1 ht with ht | ht
              · exact HALL.out t ht
              · simp only [Option.toList_some, List.mem_singleton] at ht
                subst ht
                exact HT.out
            go_wp2_with fail
            go_roundw
            case rel => exact ⟨i + 1, by omega, by go_num, Below.step HBR.out HB3.out, (HB3.out.block _ (lt_of_block HBXR.out)).trans HBXR.out, HN.out⟩
            case measure => simp [intOf]; omega
          · have f1 : ((c : Int) != 0) = true := by simp; omega
            have HR : Hid (¬ HOk (tK rows, rs, bz)) := fun h => hc (HC0.out.2 (h.2.2.1 _ (List.mem_of_getElem? HTK.out)))
            have HCN := Lib.hid hc
            clear hc
            go_wp2_with fail
            go_ret
            exact ⟨c, rfl, hc4, ⟨fun h => absurd h HCN.out, fun h => absurd h HR.out⟩, Below.step HBR.out HB3.out⟩
        · have m3 : ¬ (i : Int) < (rows.length : Int) := by omega
          have HAT := Lib.hid (any_there (tK rows) rs)
          have HCON := Lib.hid (containsRoot_any (fun k => !thereB (tK rows) k) w.heap.size b rc rs wr (fun n wx hx => croot_any a tc rows b rs.length rc bz n w.heap.size wx ((HS.out.below HBR.out).below hx).1 hl ((hx.block _ (lt_of_block HBXR.out)).trans HBXR.out)) (HK.out.below HBR.out) hkl)
          obtain ⟨r, hr⟩ : ∃ r, (rs.any fun k => !thereB (tK rows) k) = r := ⟨_, rfl⟩
          rw [hr] at HCON HAT
          have HAL : Hid (∀ t ∈ tK rows, TOk (tK rows) t) := by
            have := HALL.out
            rwa [List.take_of_length_le (by rw [HLN.out]; omega)] at this
          clear hr
          go_wp2_with fail
          refine HCON.out.mono ?_
          rintro e w1 ⟨rfl, hb⟩
          have HB1 := Lib.hid (Below.step HBR.out hb)
          clear hb
          cases r with
          | true =>
            have HR : Hid (¬ HOk (tK rows, rs, bz)) := fun h => absurd (HAT.out.2 h.2.2.2) (by simp)
            go_wp2_with fail
            go_ret
            exact ⟨1, rfl, by decide, ⟨(fun h => by cases h), fun h => absurd h HR.out⟩, HB1.out⟩
          | false =>
            have HR : Hid (HOk (tK rows, rs, bz)) := ⟨by show (tK rows).length ≤ 40; rw [HLN.out]; omega, by show rs.length ≤ 64; omega, HAL.out, HAT.out.1 rfl⟩
            go_wp2_with fail
            go_ret
            exact ⟨0, rfl, by decide, ⟨fun _ => HR.out, fun _ => rfl⟩, HB1.out⟩
end Go.Proofs.Ytgoocmocdimnoaa
