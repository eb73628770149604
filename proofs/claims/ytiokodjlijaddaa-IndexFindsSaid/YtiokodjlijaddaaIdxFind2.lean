/- The walk of index.Find. -/
import Derived.Test.YtiokodjlijaddaaIdxFind
import Derived.Test.YtiokodjlijaddaaWords
import Derived.Test.YtiokodjlijaddaaStoreNew
import Derived.Deep.MidRow
namespace Go.Proofs.Ytiokodjlijaddaa
open Go.RowKit Plain
namespace Plain
theorem xOk_sorted {l : List Pl} (h : xOk l) : ∀ (d p : Nat) (hq : p + d + 1 < l.length), cmpN (idL (l[p]'(by omega)).1) (idL (l[p + d + 1]'hq).1) < 0
  | 0, p, hq => by
    have := h.2.2 p hq
    rw [cmpN_neg] at this
    simpa using this
  | d + 1, p, hq => by
    have h1 := xOk_sorted h d p (by omega)
    have h2 := h.2.2 (p + d + 1) hq
    rw [cmpN_neg] at h2
    have h3 : cmpN (idL (l[p + d + 1]'(by omega)).1) (idL (l[p + d + 1 + 1]'hq).1) < 0 := by simpa using h2
    exact cmpN_trans _ _ _ h1 h3
theorem xOk_lt {l : List Pl} (h : xOk l) (p q : Nat) (hp : p < l.length) (hq : q < l.length) (hpq : p < q) : cmpN (idL l[p].1) (idL l[q].1) < 0 := by
  obtain ⟨d, rfl⟩ : ∃ d, q = p + d + 1 := ⟨q - p - 1, by omega⟩
  exact xOk_sorted h d p hq
def zeroPl : Pl := ((0, 0, 0, 0, 0, 0, 0, 0), 0, 0, 0, 0)
/-- what Find answers -/
def Fnd (l : List Pl) (t : ID8) (p : Pl) (c : Nat) : Prop :=
  (c = 0 ∧ xOk l ∧ p ∈ l ∧ idL p.1 = idL t) ∨ (c ≠ 0 ∧ p = zeroPl ∧ (xOk l → ∀ q ∈ l, idL q.1 ≠ idL t))
theorem fnd_hit {l : List Pl} {t : ID8} {i : Nat} (h : xOk l) (hi : i < l.length) (hc : cmpN (idL l[i].1) (idL t) = 0) : Fnd l t l[i] 0 :=
  .inl ⟨rfl, h, List.getElem_mem hi, (cmpN_zero _ _).1 hc⟩
theorem fnd_miss {l : List Pl} {t : ID8} {i : Nat} (h : xOk l) (hb : BS l t i i) (hn : ¬ ∃ hi : i < l.length, cmpN (idL l[i].1) (idL t) = 0) : Fnd l t zeroPl 9 := by
  refine .inr ⟨by decide, rfl, fun _ q hq e => ?_⟩
  obtain ⟨k, hk, rfl⟩ := List.mem_iff_getElem.1 hq
  have e0 := (cmpN_zero _ _).2 e
  rcases Nat.lt_or_ge k i with h1 | h1
  · have := hb.2.2.1 k hk h1
    omega
  · by_cases e1 : k = i
    · subst e1; exact hn ⟨hk, e0⟩
    · have h2 := xOk_lt h i k (by omega) hk (by omega)
      rw [← e] at hn
      rw [e] at h2
      have h3 := hb.2.2.2 i (by omega) (Nat.le_refl _)
      omega
end Plain
theorem results_row_tmpI {P : Program} {fn : Func} {p q : Tmp} {ty : TypeId} (h : fn.results = #[.cell p ty, .tmp q]) (tmps : Array Value) (w : World) (g : Nat) (t : TypeId) (cs : Array Value) (fr : Nat × Nat) (d : TypeDesc)
    (hp : tmps.getD p undef = .pointer (some ⟨g, 0, none⟩)) (hg : w.heap[g]? = some (.cells cs t fr))
    (hu : P.underlying ty = some d) (hd : (match d with | .struct _ | .array _ _ => true | _ => false) = true) (hi : (P.info? ty).map (·.size) = some cs.size) :
    (results fn tmps).run P w = .ok (.tuple #[.agg cs, tmps.getD q undef]) w := by
  have hp' : tmps[p]?.getD undef = .pointer (some ⟨g, 0, none⟩) := by simpa using hp
  simp [results, h, hp', asAddr, run_loadVar_row w g t ty cs fr d hg hu hd hi]
theorem row_thereI {w : World} {b : Nat} {t : TypeId} {cs : Array Value} (h : w.heap[b]? = some (.cells cs t (0, 0))) : w.there b 0 cs.size := fun j hj => by
  rw [Nat.zero_add, cell_of_row _ _ _ _ _ _ h, Array.getElem?_eq_getElem hj]
  exact ⟨rfl, frozen_of_row _ _ _ _ _ h⟩
theorem plC_one (p : Pl) : (plC p).toArray.all (·.oneCell') = true := by
  apply all_oneCell_toArray
  intro u hu
  simp only [plC, idL, List.map_cons, List.map_nil, List.cons_append, List.nil_append, bV, List.mem_cons, List.not_mem_nil, or_false] at hu
  rcases hu with rfl | rfl | rfl | rfl | rfl | rfl | rfl | rfl | rfl | rfl | rfl | rfl <;> rfl
def FindEnd (w0 : World) (l : List Pl) (t : ID8) (e : Ending) (w : World) : Prop := ∃ p c, Fnd l t p c ∧ e = .returned (.tuple #[plV p, .int .i64 ((c : Nat) : Int)]) ∧ Below w0.heap.size w0 w
set_option maxRecDepth 100000 in
set_option maxHeartbeats 2000000 in
theorem find_any (a : Option Addr) (cap : Nat) (l : List Pl) (t : ID8) (w : World) (h : SAt 12 plC w a l) (hl : l.length ≤ 9223372036854775807) (hlt : ∀ p ∈ l, ∀ c ∈ idL p.1, c < 256) (ht : ∀ c ∈ idL t, c < 256) :
    Calls Try.prog 13 #[.slice a l.length cap, idV t] w (FindEnd w l t) := by
  have HS := Lib.hid h
  have HCK := Lib.hid fun u (hu : SAt 12 plC u a l) => xcheck_any a cap l u hu hl hlt
  have HBS := Lib.hid fun u (hu : SAt 12 plC u a l) (hx : xOk l) => bsearch_any a cap l t u hu hx.1 hlt ht (xOk_lt hx)
  have HB0 := Lib.hid (((Below.refl w.heap.size w).alloc (Nat.le_refl _) (.cells ((idL t).map bV).toArray 31)).alloc (by simp) (.cells (plC zeroPl).toArray 33))
  have hu := Try.underlying33
  have ICZ : Hid ((Try.prog.info? 33).map (·.size) = some 12) := by show _ = _; kernel_rfl
  have ICY : Hid ((Try.prog.info? 33).map (·.size) = some (#[.int .u8 0, .int .u8 0, .int .u8 0, .int .u8 0, .int .u8 0, .int .u8 0, .int .u8 0, .int .u8 0, .int .i64 0, .int .i64 0, .int .i64 0, .int .i64 0] : Array Value).size) := ICZ.out
  have ICT : Hid ((Try.prog.info? 31).map (·.size) = some 8) := by show _ = _; kernel_rfl
  clear h hlt ht
  obtain ⟨t0, t1, t2, t3, t4, t5, t6, t7⟩ := t
  unfold idV at HBS ⊢
  simp only [plC, zeroPl, idL, List.map_cons, List.map_nil, List.cons_append, List.nil_append, bV] at HB0 HBS ⊢
  have HON : Hid ((#[.int .u8 0, .int .u8 0, .int .u8 0, .int .u8 0, .int .u8 0, .int .u8 0, .int .u8 0, .int .u8 0, .int .i64 0, .int .i64 0, .int .i64 0, .int .i64 0] : Array Value).all (·.oneCell') = true) := plC_one zeroPl
  go_enter Try.func13, Try.ntmps13
  go_wp2_with fail
  have hz := (heap_two' w (.cells #[.int .u8 (t0 : Int), .int .u8 (t1 : Int), .int .u8 (t2 : Int), .int .u8 (t3 : Int), .int .u8 (t4 : Int), .int .u8 (t5 : Int), .int .u8 (t6 : Int), .int .u8 (t7 : Int)] 31) (.cells #[.int .u8 0, .int .u8 0, .int .u8 0, .int .u8 0, .int .u8 0, .int .u8 0, .int .u8 0, .int .u8 0, .int .i64 0, .int .i64 0, .int .i64 0, .int .i64 0] 33))
  have HSZ : Hid (((w.alloc (.cells #[.int .u8 (t0 : Int), .int .u8 (t1 : Int), .int .u8 (t2 : Int), .int .u8 (t3 : Int), .int .u8 (t4 : Int), .int .u8 (t5 : Int), .int .u8 (t6 : Int), .int .u8 (t7 : Int)] 31)).alloc (.cells #[.int .u8 0, .int .u8 0, .int .u8 0, .int .u8 0, .int .u8 0, .int .u8 0, .int .u8 0, .int .u8 0, .int .i64 0, .int .i64 0, .int .i64 0, .int .i64 0] 33)).heap.size = w.heap.size + 1 + 1) := by show _ = _; simp
  generalize (w.alloc (.cells #[.int .u8 (t0 : Int), .int .u8 (t1 : Int), .int .u8 (t2 : Int), .int .u8 (t3 : Int), .int .u8 (t4 : Int), .int .u8 (t5 : Int), .int .u8 (t6 : Int), .int .u8 (t7 : Int)] 31)).alloc (.cells #[.int .u8 0, .int .u8 0, .int .u8 0, .int .u8 0, .int .u8 0, .int .u8 0, .int .u8 0, .int .u8 0, .int .i64 0, .int .i64 0, .int .i64 0, .int .i64 0] 33) = wa at *
  refine (HCK.out wa (HS.out.below HB0.out)).mono ?_
  rintro e w1 ⟨c, rfl, hc, hb1⟩
  have HZ := Lib.hid ((hb1.block (w.heap.size + 1) (by have := HSZ.out; omega)).trans hz.2)
  have HT := Lib.hid ((hb1.block w.heap.size (by have := HSZ.out; omega)).trans hz.1)
  have HB1 := Lib.hid (HB0.out.trans (hb1.mono HB0.out.size))
  have HW1 : Hid (w.heap.size + 1 < w1.heap.size) := lt_of_block HZ.out
  clear hb1 hz HCK HB0 HSZ
  by_cases hc0 : c = 0
  · have f1 : (((c : Nat) : Int) != 0) = false := by simp; omega
    have HX := Lib.hid (hc.1 hc0)
    have HB := Lib.hid (HBS.out w1 (HS.out.below HB1.out) (hc.1 hc0))
    clear hc hc0 HBS
    have c0 := cell_of_row w1 w.heap.size 0 _ _ _ HT.out
    have c1 := cell_of_row w1 w.heap.size 1 _ _ _ HT.out
    have c2 := cell_of_row w1 w.heap.size 2 _ _ _ HT.out
    have c3 := cell_of_row w1 w.heap.size 3 _ _ _ HT.out
    have c4 := cell_of_row w1 w.heap.size 4 _ _ _ HT.out
    have c5 := cell_of_row w1 w.heap.size 5 _ _ _ HT.out
    have c6 := cell_of_row w1 w.heap.size 6 _ _ _ HT.out
    have c7 := cell_of_row w1 w.heap.size 7 _ _ _ HT.out
    simp only [List.getElem?_toArray, List.getElem?_cons_zero, List.getElem?_cons_succ] at c0 c1 c2 c3 c4 c5 c6 c7
    go_wp2_with fail
    clear c0 c1 c2 c3 c4 c5 c6 c7
    refine HB.out.mono ?_
    rintro e w2 ⟨i, f, hbs, hf, rfl, hb2⟩
    have HZ2 := Lib.hid ((hb2.block (w.heap.size + 1) HW1.out).trans HZ.out)
    have HTH : Hid (w2.there (w.heap.size + 1) 0 (#[.int .u8 0, .int .u8 0, .int .u8 0, .int .u8 0, .int .u8 0, .int .u8 0, .int .u8 0, .int .u8 0, .int .i64 0, .int .i64 0, .int .i64 0, .int .i64 0] : Array Value).size) := row_thereI HZ2.out
    have HB2 := Lib.hid (Below.step HB1.out hb2)
    have HBSR := Lib.hid hbs
    have HFF := Lib.hid hf
    clear hb2 hbs hf HB HZ HT HW1
    cases f with
    | false =>
      have HN : Hid (Fnd l (t0, t1, t2, t3, t4, t5, t6, t7) zeroPl 9) := fnd_miss HX.out HBSR.out (fun h => by have := HFF.out.2 h; cases this)
      clear HFF HBSR HX
      go_wp2_with (with_reducible refine wpList_store_mid rfl 33 (.tmp 4) (.tmp 23) rfl (w.heap.size + 1) 0 #[.int .u8 0, .int .u8 0, .int .u8 0, .int .u8 0, .int .u8 0, .int .u8 0, .int .u8 0, .int .u8 0, .int .i64 0, .int .i64 0, .int .i64 0, .int .i64 0] rfl rfl HTH.out ICY.out HON.out ?_)
      (try simp only [Exit.inBlock, Exit.then])
      refine bodyPost_ret (results_row_tmpI (p := 4) (q := 5) (ty := 33) rfl _ _ (w.heap.size + 1) 33 #[.int .u8 0, .int .u8 0, .int .u8 0, .int .u8 0, .int .u8 0, .int .u8 0, .int .u8 0, .int .u8 0, .int .i64 0, .int .i64 0, .int .i64 0, .int .i64 0] (0, 0) _ rfl (setCells_full HZ2.out _ rfl) hu rfl ICZ.out) rfl ?_
      exact ⟨zeroPl, 9, HN.out, rfl, below_setCells (Nat.le_succ _) _ _ HB2.out⟩
    | true =>
      obtain ⟨hi, hci⟩ := HFF.out.1 rfl
      have HN := Lib.hid (fnd_hit HX.out hi hci)
      obtain ⟨g, off, rfl, hg, hrng⟩ := (HS.out.below HB2.out) i hi
      have HR := Lib.hid hrng
      have HO2 := Lib.hid (plC_one l[i])
      have HPV : Hid (plV l[i] = .agg (plC l[i]).toArray) := rfl
      have HPL : Hid ((plC l[i]).length = 12) := plC_length _
      have i1 : (i : Int) < (l.length : Int) := by omega
      have i0 : (0 : Int) ≤ (i : Int) := Int.natCast_nonneg _
      generalize hp : l[i] = p at *
      generalize hpc : plC p = pc at *
      have HI1 : Hid ((Try.prog.info? 33).map (·.size) = some pc.length) := by show _ = _; rw [HPL.out]; exact ICZ.out
      have HTH2 : Hid (w2.there (w.heap.size + 1) 0 pc.toArray.size) := by have h := HTH.out; have e : pc.toArray.size = (#[.int .u8 0, .int .u8 0, .int .u8 0, .int .u8 0, .int .u8 0, .int .u8 0, .int .u8 0, .int .u8 0, .int .i64 0, .int .i64 0, .int .i64 0, .int .i64 0] : Array Value).size := HPL.out; show World.there _ _ _ _; rw [e]; exact h
      have HI2 : Hid ((Try.prog.info? 33).map (·.size) = some pc.toArray.size) := HI1.out
      have HSZ2 : Hid (pc.toArray.size = 12) := HPL.out
      clear HFF HBSR HX hrng hci hp hpc
      go_wp2_with (first
        | (with_reducible refine wpList_load_mid rfl 33 (.tmp 26) rfl g (off + i * 12) rfl pc _ HR.out Try.underlying33 rfl ?_ ?_; exact HI1.out)
        | (with_reducible refine wpList_store_mid rfl 33 (.tmp 4) (.tmp 27) rfl (w.heap.size + 1) 0 pc.toArray rfl rfl HTH2.out HI2.out HO2.out ?_))
      (try simp only [Exit.inBlock, Exit.then])
      refine bodyPost_ret (results_row_tmpI (p := 4) (q := 5) (ty := 33) rfl _ _ (w.heap.size + 1) 33 pc.toArray (0, 0) _ rfl (setCells_full HZ2.out _ HSZ2.out) hu rfl HI2.out) rfl ?_
      exact ⟨p, 0, HN.out, by rw [HPV.out]; rfl, below_setCells (Nat.le_succ _) _ _ HB2.out⟩
  · have f1 : (((c : Nat) : Int) != 0) = true := by simpa using hc0
    have HN : Hid (Fnd l (t0, t1, t2, t3, t4, t5, t6, t7) zeroPl c) := .inr ⟨hc0, rfl, fun h => absurd (hc.2 h) hc0⟩
    have HTH : Hid (w1.there (w.heap.size + 1) 0 (#[.int .u8 0, .int .u8 0, .int .u8 0, .int .u8 0, .int .u8 0, .int .u8 0, .int .u8 0, .int .u8 0, .int .i64 0, .int .i64 0, .int .i64 0, .int .i64 0] : Array Value).size) := row_thereI HZ.out
    clear hc hc0 HBS
    go_wp2_with (with_reducible refine wpList_store_mid rfl 33 (.tmp 4) (.tmp 13) rfl (w.heap.size + 1) 0 #[.int .u8 0, .int .u8 0, .int .u8 0, .int .u8 0, .int .u8 0, .int .u8 0, .int .u8 0, .int .u8 0, .int .i64 0, .int .i64 0, .int .i64 0, .int .i64 0] rfl rfl HTH.out ICY.out HON.out ?_)
    (try simp only [Exit.inBlock, Exit.then])
    refine bodyPost_ret (results_row_tmpI (p := 4) (q := 5) (ty := 33) rfl _ _ (w.heap.size + 1) 33 #[.int .u8 0, .int .u8 0, .int .u8 0, .int .u8 0, .int .u8 0, .int .u8 0, .int .u8 0, .int .u8 0, .int .i64 0, .int .i64 0, .int .i64 0, .int .i64 0] (0, 0) _ rfl (setCells_full HZ.out _ rfl) hu rfl ICZ.out) rfl ?_
    exact ⟨zeroPl, c, HN.out, rfl, below_setCells (Nat.le_succ _) _ _ HB1.out⟩
end Go.Proofs.Ytiokodjlijaddaa
