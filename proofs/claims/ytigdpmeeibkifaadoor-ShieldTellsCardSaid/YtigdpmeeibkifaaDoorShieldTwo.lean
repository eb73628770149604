/- The two matrices of the elimination, in memory. -/
import Derived.Test.YtigdpmeeibkifaaDoorShieldMat
namespace Go.Proofs.YtigdpmeeibkifaaDoor
open Go.RowKit Plain
set_option linter.unusedVariables false
set_option linter.unusedSimpArgs false
structure Two (B0 A oa O n : Nat) (w0 : World) (ids idO : Nat → Nat) (M N : Mtx) (w : World) : Prop where
  m : Mat w A oa ids M n n
  o : Mat w O 0 idO N n n
  ao : A ≠ O
  ap : ∀ r s, r < n → s < n → ids r ≠ idO s
  lA : B0 ≤ A
  lO : B0 ≤ O
  li : ∀ r, r < n → B0 ≤ ids r
  lo : ∀ r, r < n → B0 ≤ idO r
  bel : Below B0 w0 w
  kp : Kpr w0 w
variable {B0 A oa O n : Nat} {w0 w : World} {ids idO : Nat → Nat} {M N : Mtx}
theorem Two.drew (h : Two B0 A oa O n w0 ids idO M N w) : Two B0 A oa O n w0 ids idO M N w.drew :=
  ⟨h.m.drew, h.o.drew, h.ao, h.ap, h.lA, h.lO, h.li, h.lo, h.bel.drew, h.kp.trans (Kpr.below (Below.refl _ _).drew)⟩
theorem Two.byteA (h : Two B0 A oa O n w0 ids idO M N w) {r : Nat} (hr : r < n) : A ≠ idO r := by
  obtain ⟨cs, h1, _⟩ := h.m.outer
  have h2 := h.o.rows r hr
  unfold BRow at h2
  exact type_ne h1 h2 (by decide)
theorem Two.byteO (h : Two B0 A oa O n w0 ids idO M N w) {r : Nat} (hr : r < n) : O ≠ ids r := by
  obtain ⟨cs, h1, _⟩ := h.o.outer
  have h2 := h.m.rows r hr
  unfold BRow at h2
  exact type_ne h1 h2 (by decide)
theorem Two.setM (h : Two B0 A oa O n w0 ids idO M N w) {r : Nat} (hr : r < n) (k v : Nat) : Two B0 A oa O n w0 ids idO (upd M r k v) N (w.setCell ⟨ids r, k, none⟩ (.int .u8 (v : Int))) :=
  ⟨h.m.set hr k v, h.o.other (h.byteO hr) (fun s hs => Ne.symm (h.ap r s hr hs)) k _, h.ao, h.ap, h.lA, h.lO, h.li, h.lo, h.bel.setCell (h.li r hr) _, h.kp.trans (h.m.kprB hr k _)⟩
theorem Two.setO (h : Two B0 A oa O n w0 ids idO M N w) {r : Nat} (hr : r < n) (k v : Nat) : Two B0 A oa O n w0 ids idO M (upd N r k v) (w.setCell ⟨idO r, k, none⟩ (.int .u8 (v : Int))) :=
  ⟨h.m.other (h.byteA hr) (fun s hs => h.ap s r hs hr) k _, h.o.set hr k v, h.ao, h.ap, h.lA, h.lO, h.li, h.lo, h.bel.setCell (h.lo r hr) _, h.kp.trans (h.o.kprB hr k _)⟩
theorem swapI_lt {f : Nat → Nat} {c p : Nat} (hc : c < n) (hp : p < n) {P : Nat → Prop} (h : ∀ r, r < n → P (f r)) : ∀ r, r < n → P (swapI f c p r) := fun r hr => by
  unfold swapI
  by_cases e1 : r = c
  · rw [if_pos e1]; exact h p hp
  · rw [if_neg e1]
    by_cases e2 : r = p
    · rw [if_pos e2]; exact h c hc
    · rw [if_neg e2]; exact h r hr
theorem Two.swapA (h : Two B0 A oa O n w0 ids idO M N w) {c p : Nat} (hc : c < n) (hp : p < n) :
    Two B0 A oa O n w0 (swapI ids c p) idO (swapM M c p) N ((w.setCell ⟨A, oa + c, none⟩ (rowV ids n p)).setCell ⟨A, oa + p, none⟩ (rowV ids n c)) := by
  have k1 := h.m.kprA (oa + c) (rowV ids n p)
  obtain ⟨cs, e1, _⟩ := h.m.outer
  have e2 := heap_setCell_same w A (oa + c) cs _ (rowV ids n p) e1
  refine ⟨h.m.swap hc hp, (h.o.other (Ne.symm h.ao) (fun s hs => Ne.symm (h.byteA hs)) _ _).other (Ne.symm h.ao) (fun s hs => Ne.symm (h.byteA hs)) _ _, h.ao, fun r s hr hs => ?_, h.lA, h.lO, swapI_lt hc hp h.li, h.lo, (h.bel.setCell h.lA _).setCell h.lA _, (h.kp.trans k1).trans (Kpr.set e2 (.inr rfl) _ _)⟩
  exact swapI_lt (f := ids) (P := fun x => x ≠ idO s) hc hp (fun r hr => h.ap r s hr hs) r hr
theorem Two.swapO (h : Two B0 A oa O n w0 ids idO M N w) {c p : Nat} (hc : c < n) (hp : p < n) :
    Two B0 A oa O n w0 ids (swapI idO c p) M (swapM N c p) ((w.setCell ⟨O, c, none⟩ (rowV idO n p)).setCell ⟨O, p, none⟩ (rowV idO n c)) := by
  have k1 := h.o.kprA c (rowV idO n p)
  obtain ⟨cs, e1, _⟩ := h.o.outer
  have e2 := heap_setCell_same w O c cs _ (rowV idO n p) e1
  have hsw := h.o.swap hc hp
  simp only [Nat.zero_add] at hsw
  refine ⟨(h.m.other h.ao (fun s hs => Ne.symm (h.byteO hs)) _ _).other h.ao (fun s hs => Ne.symm (h.byteO hs)) _ _, hsw, h.ao, fun r s hr hs => ?_, h.lA, h.lO, h.li, swapI_lt hc hp h.lo, (h.bel.setCell h.lO _).setCell h.lO _, (h.kp.trans k1).trans (Kpr.set e2 (.inr rfl) _ _)⟩
  exact swapI_lt (f := idO) (P := fun x => ids r ≠ x) hc hp (fun s hs => h.ap r s hr hs) s hs
theorem Two.congr {M' N' : Mtx} (h : Two B0 A oa O n w0 ids idO M N w) (e : ∀ r, r < n → ∀ k, k < n → M r k = M' r k) (e' : ∀ r, r < n → ∀ k, k < n → N r k = N' r k) : Two B0 A oa O n w0 ids idO M' N' w :=
  ⟨h.m.congr e, h.o.congr e', h.ao, h.ap, h.lA, h.lO, h.li, h.lo, h.bel, h.kp⟩
/-- the first k entries of row c are scaled -/
def scaleP (M : Mtx) (c f k : Nat) : Mtx := fun r' k' => if r' = c ∧ k' < k then fmul f (M c k') else M r' k'
theorem scaleP_zero (M : Mtx) (c f r k : Nat) : M r k = scaleP M c f 0 r k := by unfold scaleP; rw [if_neg (by omega)]
theorem scaleP_end (M : Mtx) (c f n r k : Nat) (hk : k < n) : scaleP M c f n r k = scaleM M c f r k := by
  unfold scaleP scaleM
  by_cases e : r = c
  · rw [if_pos ⟨e, hk⟩, if_pos e]
  · rw [if_neg (fun q => e q.1), if_neg e]
theorem scaleP_get (M : Mtx) (c f k : Nat) : scaleP M c f k c k = M c k := by unfold scaleP; rw [if_neg (by omega)]
theorem scaleP_step (M : Mtx) (c f k r' k' : Nat) : upd (scaleP M c f k) c k (fmul f (M c k)) r' k' = scaleP M c f (k + 1) r' k' := by
  unfold upd scaleP
  by_cases e : r' = c
  · by_cases e2 : k' = k
    · rw [if_pos ⟨e, e2⟩, if_pos ⟨e, by omega⟩, e2]
    · by_cases e3 : k' < k
      · rw [if_neg (fun q => e2 q.2), if_pos ⟨e, e3⟩, if_pos ⟨e, by omega⟩]
      · rw [if_neg (fun q => e2 q.2), if_neg (fun q => e3 q.2), if_neg (fun q => e3 (by omega))]
  · rw [if_neg (fun q => e q.1), if_neg (fun q => e q.1), if_neg (fun q => e q.1)]
/-- to the first k entries of row r the row u is added -/
def elimP (M : Mtx) (r f : Nat) (u : Nat → Nat) (k : Nat) : Mtx := fun r' k' => if r' = r ∧ k' < k then M r k' ^^^ fmul f (u k') else M r' k'
theorem elimP_zero (M : Mtx) (r f : Nat) (u : Nat → Nat) (r' k : Nat) : M r' k = elimP M r f u 0 r' k := by unfold elimP; rw [if_neg (by omega)]
theorem elimP_end (M : Mtx) (r f n : Nat) (u : Nat → Nat) (r' k : Nat) (hk : k < n) : elimP M r f u n r' k = elimM M r f u r' k := by
  unfold elimP elimM
  by_cases e : r' = r
  · rw [if_pos ⟨e, hk⟩, if_pos e]
  · rw [if_neg (fun q => e q.1), if_neg e]
theorem elimP_get (M : Mtx) (r f k : Nat) (u : Nat → Nat) : elimP M r f u k r k = M r k := by unfold elimP; rw [if_neg (by omega)]
theorem elimP_row (M : Mtx) (r f k c k' : Nat) (u : Nat → Nat) (h : c ≠ r) : elimP M r f u k c k' = M c k' := by unfold elimP; rw [if_neg (fun q => h q.1)]
theorem elimP_step (M : Mtx) (r f k : Nat) (u : Nat → Nat) (r' k' : Nat) : upd (elimP M r f u k) r k (M r k ^^^ fmul f (u k)) r' k' = elimP M r f u (k + 1) r' k' := by
  unfold upd elimP
  by_cases e : r' = r
  · by_cases e2 : k' = k
    · rw [if_pos ⟨e, e2⟩, if_pos ⟨e, by omega⟩, e2]
    · by_cases e3 : k' < k
      · rw [if_neg (fun q => e2 q.2), if_pos ⟨e, e3⟩, if_pos ⟨e, by omega⟩]
      · rw [if_neg (fun q => e2 q.2), if_neg (fun q => e3 q.2), if_neg (fun q => e3 (by omega))]
  · rw [if_neg (fun q => e q.1), if_neg (fun q => e q.1), if_neg (fun q => e q.1)]
/-- what the algebra holds on to -/
structure Alg (n : Nat) (M0 M N : Mtx) : Prop where
  tied : TiedM n M0 M N
  ns : NS n M
  bm : BytM M
  bn : BytM N
  nsn : NS n N
def IvEnd (n : Nat) (M0 : Mtx) (B0 : Nat) (w0 : World) (e : Ending) (w : World) : Prop := Below B0 w0 w ∧ Kpr w0 w ∧ ∃ O idO N, e = .returned (.slice (some ⟨O, 0, none⟩) n n) ∧ Mat w O 0 idO N n n ∧ BytM N ∧ NS n N ∧
  ∀ x, Byt x → ∀ r, r < n → dotN n (N r) (fun s => dotN n (M0 s) x) = x r
theorem ns_id (n : Nat) : NS n idM := fun x hx hz k hk => by
  have := hz k hk
  rwa [dot_one hk x hx (idM k) (by simp [idM]) (fun j _ hn => by simp [idM]; omega)] at this
/-- 'make([][]byte, n)' -/
theorem run_make_rows (n : Nat) (hn : n ≤ 16) (u : World) : (Instr.makeSlice 49 (.int .i64 (n : Int)) (.int .i64 (n : Int))).run Tryd.prog u = .ok (.slice (some ⟨u.heap.size, 0, none⟩) n n) (u.alloc (.cells (Array.replicate n (.slice none 0 0)) 34)) := by
  obtain ⟨i, hi, hz, hs, hb⟩ := info_parts (show (Tryd.prog.info? 34).map (fun i => (i.zero, i.size, i.bytes)) = some (some (.slice none 0 0), 1, 24) by kernel_rfl)
  have := run_make (P := Tryd.prog) u 49 34 i (.slice none 0 0) Tryd.underlying49 hi hz .i64 .i64 (n : Int) (n : Int) (by omega) (Int.le_refl _) (by rw [hb]; omega) (by omega)
  rw [this, hs]
  simp only [Int.toNat_natCast]
  congr 3
  simp only [madeCells, Nat.mul_one]
  apply Array.ext
  · simp
  · intro k h1 h2
    simp [Value.cells, Nat.mod_one]
end Go.Proofs.YtigdpmeeibkifaaDoor
