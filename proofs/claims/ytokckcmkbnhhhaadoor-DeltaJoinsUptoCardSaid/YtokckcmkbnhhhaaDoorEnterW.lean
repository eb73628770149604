/- The walk of lease.Enter. -/
import Derived.Test.YtokckcmkbnhhhaaDoorLeaseAloneW
import Derived.Test.YtokckcmkbnhhhaaDoorConcatW
namespace Go.Proofs.YtokckcmkbnhhhaaDoor
open Go.RowKit Plain
theorem info_fence : (Tryd.prog.info? 38).map (·.size) = some 2 := by kernel_rfl
theorem own_setCells {w : World} {base : Nat} {e : TypeId} {k : Nat} {v : Value} {n : Nat} {xs : List Value} (h : w.ownsRow base e k v n xs) {B : Nat} (hB : B < base) (vs : List Value) (o : Nat) : (w.setCells B o vs).ownsRow base e k v n xs := by
  obtain ⟨h1, h2⟩ := h
  refine ⟨h1, ?_⟩
  rcases h2 with h2 | ⟨g, cap, cur, hv, hb, hg, hr⟩
  · exact .inl h2
  · exact .inr ⟨g, cap, cur, hv, hb, (heap_setCells_other B g (by omega) vs o w).trans hg, hr⟩
theorem own_base {w : World} {base b2 : Nat} {e : TypeId} {k : Nat} {v : Value} {n : Nat} {xs : List Value} (h : w.ownsRow base e k v n xs) (hb : b2 ≤ base) : w.ownsRow b2 e k v n xs := by
  obtain ⟨h1, h2⟩ := h
  refine ⟨h1, ?_⟩
  rcases h2 with h2 | ⟨g, cap, cur, hv, hg, hr⟩
  · exact .inl h2
  · exact .inr ⟨g, cap, cur, hv, by omega, hr⟩
def EnEnd (w0 : World) (seen : Int) (l : List ByteArray) (token : Int) (text : ByteArray) (e : Ending) (w : World) : Prop := Below w0.heap.size w0 w ∧
  ((seen ≤ token ∧ l.length < 100 ∧ ∃ a c, e = .returned (.tuple #[.agg #[.int .i64 token, .slice a (l.length + 1) c], .int .i64 0]) ∧ w.ownsRow w0.heap.size 9 1 (.slice a (l ++ [text]).length c) (l ++ [text]).length ((l ++ [text]).flatMap sC)) ∨
   (∃ c : Int, c ≠ 0 ∧ e = .returned (.tuple #[.agg #[.int .i64 0, .slice none 0 0], .int .i64 c])))
set_option maxRecDepth 100000 in
set_option maxHeartbeats 1000000 in
theorem enter_any (seen : Int) (a : Option Addr) (c : Nat) (l : List ByteArray) (token : Int) (text : ByteArray) (w : World) (hs : 0 ≤ seen ∧ seen ≤ 1099511627776) (ht : 0 ≤ token ∧ token ≤ 1099511627776) (hx : text.size = 1) (hl : SAt 1 sC w a l) :
    Calls Tryd.prog 20 #[.agg #[.int .i64 seen, .slice a l.length c], .int .i64 token, .string text] w (EnEnd w seen l token text) := by
  have HON : ∀ (x : Int) (b : Option Addr) (n k : Nat), (#[.int .i64 x, .slice b n k] : Array Value).all (·.oneCell') = true := fun x b n k => by simp [Value.oneCell']
  have HI2 : ∀ (x : Int) (b : Option Addr) (n k : Nat), (Tryd.prog.info? 38).map (·.size) = some (#[.int .i64 x, .slice b n k] : Array Value).size := fun _ _ _ _ => info_fence
  have HON := Lib.hid HON
  have HI2 := Lib.hid HI2
  have HIR := Lib.hid inRangeL_in
  have HCO := Lib.hid concat_any
  have HSA := Lib.hid hl
  have HS := Lib.hid hs
  have HTK := Lib.hid ht
  have b0 : Below w.heap.size w ((w.alloc (.cells #[.int .i64 seen, .slice a l.length c] 38)).alloc (.cells #[.int .i64 0, .slice none 0 0] 38)) := ((Below.refl _ _).alloc (Nat.le_refl _) _).alloc (by simp) _
  have r1 : ((w.alloc (.cells #[.int .i64 seen, .slice a l.length c] 38)).alloc (.cells #[.int .i64 0, .slice none 0 0] 38)).heap[w.heap.size]? = some (.cells #[.int .i64 seen, .slice a l.length c] 38 (0, 0)) := (Below.heap_alloc _ _ _ (by simp)).trans (heap_alloc_new _ _)
  have r2 : ((w.alloc (.cells #[.int .i64 seen, .slice a l.length c] 38)).alloc (.cells #[.int .i64 0, .slice none 0 0] 38)).heap[w.heap.size + 1]? = some (.cells #[.int .i64 0, .slice none 0 0] 38 (0, 0)) := by
    have h := heap_alloc_new (w.alloc (.cells #[.int .i64 seen, .slice a l.length c] 38)) (.cells #[.int .i64 0, .slice none 0 0] 38)
    have e : (w.alloc (.cells #[.int .i64 seen, .slice a l.length c] 38)).heap.size = w.heap.size + 1 := by simp
    rwa [e] at h
  have HB1 := Lib.hid b0
  have HR2b := Lib.hid r2
  have x0 := cell_of_row _ _ 0 _ _ _ r1
  have x1 := cell_of_row _ _ 1 _ _ _ r1
  simp only [List.getElem?_toArray, List.getElem?_cons_succ, List.getElem?_cons_zero] at x0 x1
  clear hl hs ht b0 r1 r2
  go_enter Tryd.func20, Tryd.ntmps20
  go_wp2_with fail
  generalize (w.alloc (.cells #[.int .i64 seen, .slice a l.length c] 38)).alloc (.cells #[.int .i64 0, .slice none 0 0] 38) = w1 at *
  have HTH : Hid (w1.there (w.heap.size + 1) 0 (#[.int .i64 0, .slice none 0 0] : Array Value).size) := row_thereI HR2b.out
  refine (HIR.out seen w1 HS.out.1 HS.out.2).mono ?_
  rintro e w2 ⟨rfl, rfl⟩
  go_wp2_with fail
  refine (HIR.out token w1 HTK.out.1 HTK.out.2).mono ?_
  rintro e w2 ⟨rfl, rfl⟩
  by_cases hts : token < seen
  · go_wp2_with (with_reducible refine wpList_store_mid rfl 38 (.tmp 6) (.tmp 24) rfl (w.heap.size + 1) 0 #[.int .i64 0, .slice none 0 0] rfl rfl HTH.out (HI2.out _ _ _ _) (HON.out _ _ _ _) ?_)
    (try simp only [Exit.inBlock, Exit.then])
    refine bodyPost_ret (results_row_tmpI (p := 6) (q := 7) (ty := 38) rfl _ _ (w.heap.size + 1) 38 #[.int .i64 0, .slice none 0 0] (0, 0) _ rfl (setCells_full HR2b.out #[.int .i64 0, .slice none 0 0] rfl) Tryd.underlying38 rfl (HI2.out _ _ _ _)) rfl ?_
    exact ⟨below_setCells (Nat.le_succ _) _ _ HB1.out, .inr ⟨16, by decide, rfl⟩⟩
  · have HTS := Lib.hid hts
    have m2 : ¬ (1024 : Int) < (text.size : Int) := by omega
    by_cases h100 : 100 ≤ l.length
    · have m3 : (100 : Int) ≤ (l.length : Int) := by omega
      clear h100
      go_wp2_with (with_reducible refine wpList_store_mid rfl 38 (.tmp 6) (.tmp 35) rfl (w.heap.size + 1) 0 #[.int .i64 0, .slice none 0 0] rfl rfl HTH.out (HI2.out _ _ _ _) (HON.out _ _ _ _) ?_)
      (try simp only [Exit.inBlock, Exit.then])
      refine bodyPost_ret (results_row_tmpI (p := 6) (q := 7) (ty := 38) rfl _ _ (w.heap.size + 1) 38 #[.int .i64 0, .slice none 0 0] (0, 0) _ rfl (setCells_full HR2b.out #[.int .i64 0, .slice none 0 0] rfl) Tryd.underlying38 rfl (HI2.out _ _ _ _)) rfl ?_
      exact ⟨below_setCells (Nat.le_succ _) _ _ HB1.out, .inr ⟨12, by decide, rfl⟩⟩
    · have m3 : ¬ (100 : Int) ≤ (l.length : Int) := by omega
      have H100 := Lib.hid h100
      have b2 : Below w1.heap.size w1 ((w1.alloc (.cells #[.string text] 9)).alloc (.cells #[.slice a l.length c, .slice (some ⟨w1.heap.size, 0, none⟩) 1 1] 36)) := ((Below.refl _ _).alloc (Nat.le_refl _) _).alloc (by simp) _
      have s1 : ((w1.alloc (.cells #[.string text] 9)).alloc (.cells #[.slice a l.length c, .slice (some ⟨w1.heap.size, 0, none⟩) 1 1] 36)).heap[w1.heap.size]? = some (.cells ([text].map Value.string).toArray 9 (0, 0)) := (Below.heap_alloc _ _ _ (by simp)).trans (heap_alloc_new _ _)
      have s2 : ((w1.alloc (.cells #[.string text] 9)).alloc (.cells #[.slice a l.length c, .slice (some ⟨w1.heap.size, 0, none⟩) 1 1] 36)).heap[w1.heap.size + 1]? = some (.cells #[.slice a l.length c, .slice (some ⟨w1.heap.size, 0, none⟩) 1 1] 36 (0, 0)) := by
        have h := heap_alloc_new (w1.alloc (.cells #[.string text] 9)) (.cells #[.slice a l.length c, .slice (some ⟨w1.heap.size, 0, none⟩) 1 1] 36)
        have e : (w1.alloc (.cells #[.string text] 9)).heap.size = w1.heap.size + 1 := by simp
        rwa [e] at h
      have HB2 := Lib.hid (Below.step HB1.out b2)
      have HST := Lib.hid (sat_strs s1)
      have HS2 := Lib.hid s2
      have HSL := Lib.hid ((HSA.out.below HB1.out).below b2)
      have HR2c := Lib.hid ((b2.block _ (lt_of_block HR2b.out)).trans HR2b.out)
      clear s1 s2 b2 h100
      go_wp2_with fail
      generalize (w1.alloc (.cells #[.string text] 9)).alloc (.cells #[.slice a l.length c, .slice (some ⟨w1.heap.size, 0, none⟩) 1 1] 36) = w3 at *
      refine (HCO.out _ 36 a _ c 1 l [text] w3 HS2.out HSL.out HST.out (by simp) (by have := H100.out; simp; omega)).mono ?_
      rintro e w4 ⟨hb4, a4, c4, rfl, hown⟩
      obtain ⟨a5, c5, hv, _, _, hsat⟩ := SAt.own (c := sC) hown sC_length
      injection hv with e1 e2 e3
      subst e1 e3
      have HB4 := Lib.hid (Below.step HB2.out hb4)
      have HST4 := Lib.hid hsat
      have HRZ := Lib.hid ((hb4.block _ (lt_of_block HR2c.out)).trans HR2c.out)
      have HLN : (l ++ [text]).length = l.length + 1 := by simp
      rw [HLN]
      have HTH4 : Hid (w4.there (w.heap.size + 1) 0 (#[.int .i64 token, .slice a4 (l.length + 1) c4] : Array Value).size) := by have h := row_thereI HRZ.out; exact h
      have HSF := Lib.hid (own_base (own_setCells hown (B := w.heap.size + 1) (lt_of_block HR2c.out) [.int .i64 token, .slice a4 (l.length + 1) c4] 0) HB2.out.size)
      clear hb4 hown hsat HLN
      go_wp2_with (with_reducible refine wpList_store_mid rfl 38 (.tmp 6) (.tmp 43) rfl (w.heap.size + 1) 0 #[.int .i64 token, .slice a4 (l.length + 1) c4] rfl rfl HTH4.out (HI2.out _ _ _ _) (HON.out _ _ _ _) ?_)
      (try simp only [Exit.inBlock, Exit.then])
      refine bodyPost_ret (results_row_tmpI (p := 6) (q := 7) (ty := 38) rfl _ _ (w.heap.size + 1) 38 #[.int .i64 token, .slice a4 (l.length + 1) c4] (0, 0) _ rfl (setCells_full HRZ.out #[.int .i64 token, .slice a4 (l.length + 1) c4] rfl) Tryd.underlying38 rfl (HI2.out _ _ _ _)) rfl ?_
      exact ⟨below_setCells (Nat.le_succ _) _ _ HB4.out, .inl ⟨by have := HTS.out; omega, by have := H100.out; omega, a4, c4, rfl, HSF.out⟩⟩
end Go.Proofs.YtokckcmkbnhhhaaDoor
