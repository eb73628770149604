/- Joined: ChunkPlain, ChunkEnd, ChunkW, ChunkCut. -/
import Derived.WalkKit
import Derived.Test.YtbfoonfbhebhfaaGreatDoorKGnV
import Derived.Test.YtbfoonfbhebhfaaGreatDoorKGnJ
import Derived.Test.YtbfoonfbhebhfaaGreatDoorKGnB
import Derived.Deep.QuietTactic
import Derived.BigQuiet
namespace Go.Proofs.YtbfoonfbhebhfaaGreatDoor
namespace Plain
structure Rule where
 mn : Nat
 mx : Nat
 cut : List Nat → Bool
def Rule.ok (R : Rule) : Prop := 1 ≤ R.mn ∧ R.mn ≤ R.mx
def Rule.hit (R : Rule) (l : List Nat) (k : Nat) : Prop := k = R.mx ∨ (R.mn ≤ k ∧ R.cut (l.take k) = true)
def Rule.End (R : Rule) (l : List Nat) (k : Nat) : Prop :=
 (k = 0 ∧ ∀ j, 1 ≤ j → j ≤ l.length → ¬ R.hit l j) ∨ (1 ≤ k ∧ k ≤ l.length ∧ R.hit l k ∧ ∀ j, 1 ≤ j → j < k → ¬ R.hit l j)
inductive Rule.Pcs (R : Rule) : List Nat → List (List Nat) → List Nat → Prop
 | stop {l : List Nat} : R.End l 0 → R.Pcs l [] l
 | go {l : List Nat} {k : Nat} {ps : List (List Nat)} {r : List Nat} : 1 ≤ k → R.End l k → R.Pcs (l.drop k) ps r → R.Pcs l (l.take k :: ps) r
theorem Rule.End.unique {R : Rule} {l : List Nat} {k m : Nat} (h : R.End l k) (g : R.End l m) : k = m := by
 rcases h with ⟨rfl, h⟩ | ⟨h1, h2, h3, h4⟩ <;> rcases g with ⟨rfl, g⟩ | ⟨g1, g2, g3, g4⟩
 ·
  rfl
 ·
  exact absurd g3 (h _ g1 g2)
 ·
  exact absurd h3 (g _ h1 h2)
 ·
  rcases Nat.lt_trichotomy k m with e | e | e
  ·
   exact absurd h3 (g4 _ h1 e)
  ·
   exact e
  ·
   exact absurd g3 (h4 _ g1 e)
theorem Rule.Pcs.unique {R : Rule} {l : List Nat} {ps : List (List Nat)} {r : List Nat} (h : R.Pcs l ps r) : ∀ {qs t}, R.Pcs l qs t → ps = qs ∧ r = t := by
 induction h with
 | stop h0 =>
  intro qs t g
  cases g with
  | stop _ => exact ⟨rfl, rfl⟩
  | go g1 g2 _ => have := h0.unique g2; omega
 | go h1 h2 _ ih =>
  intro qs t g
  cases g with
  | stop g0 => have := g0.unique h2; omega
  | go g1 g2 g3 =>
   obtain rfl := h2.unique g2
   obtain ⟨rfl, rfl⟩ := ih g3
   exact ⟨rfl, rfl⟩
theorem Rule.hit_append {R : Rule} {l : List Nat} (t : List Nat) {k : Nat} (hk : k ≤ l.length) : R.hit (l ++ t) k ↔ R.hit l k := by
 unfold Rule.hit
 rw [List.take_append_of_le_length hk]
theorem Rule.End.append {R : Rule} {l : List Nat} {k : Nat} (h : R.End l k) (hk : 1 ≤ k) (t : List Nat) : R.End (l ++ t) k := by
 rcases h with ⟨rfl, _⟩ | ⟨h1, h2, h3, h4⟩
 ·
  omega
 ·
  exact .inr ⟨h1, by rw [List.length_append]; omega, (R.hit_append t h2).2 h3, fun j hj hlt hh => h4 j hj hlt ((R.hit_append t (by omega)).1 hh)⟩
theorem Rule.End.le {R : Rule} {l : List Nat} {k : Nat} (h : R.End l k) : k ≤ l.length := by
 rcases h with ⟨rfl, _⟩ | ⟨_, h2, _⟩
 ·
  omega
 ·
  exact h2
theorem Rule.Pcs.append {R : Rule} {x : List Nat} {ps : List (List Nat)} {r : List Nat} (h : R.Pcs x ps r) {t : List Nat} {qs : List (List Nat)} {r' : List Nat} : R.Pcs (r ++ t) qs r' → R.Pcs (x ++ t) (ps ++ qs) r' := by
 induction h with
 | stop _ => exact id
 | @go l k ps r h1 h2 _ ih =>
  intro g
  have := Rule.Pcs.go (R := R) (l := l ++ t) h1 (h2.append h1 t) (by rw [List.drop_append_of_le_length h2.le]; exact ih g)
  rw [List.take_append_of_le_length h2.le] at this
  exact this
theorem Rule.Pcs.join {R : Rule} {l : List Nat} {ps : List (List Nat)} {r : List Nat} (h : R.Pcs l ps r) : ps.flatten ++ r = l := by
 induction h with
 | stop _ => simp
 | go h1 h2 _ ih => rw [List.flatten_cons, List.append_assoc, ih, List.take_append_drop]
theorem Rule.Pcs.rest {R : Rule} {l : List Nat} {ps : List (List Nat)} {r : List Nat} (h : R.Pcs l ps r) : R.End r 0 := by
 induction h with
 | stop h0 => exact h0
 | go _ _ _ ih => exact ih
theorem Rule.Pcs.nil {R : Rule} : R.Pcs [] [] [] := .stop (.inl ⟨rfl, fun j h1 h2 => by simp at h2; omega⟩)
theorem Rule.end_bounds {R : Rule} (ok : R.ok) {l : List Nat} {k : Nat} (h : R.End l k) (hk : 1 ≤ k) : R.mn ≤ k ∧ k ≤ R.mx := by
 obtain ⟨o1, o2⟩ := ok
 rcases h with ⟨rfl, _⟩ | ⟨h1, h2, h3, h4⟩
 ·
  omega
 ·
  refine ⟨by rcases h3 with h | ⟨h, _⟩ <;> omega, ?_⟩
  rcases Nat.lt_or_ge R.mx k with e | e
  ·
   exact absurd (.inl rfl) (h4 R.mx (by omega) e)
  ·
   exact e
theorem Rule.rest_bound {R : Rule} (ok : R.ok) {r : List Nat} (h : R.End r 0) : r.length < R.mx := by
 obtain ⟨o1, o2⟩ := ok
 rcases h with ⟨_, h⟩ | ⟨h1, _⟩
 ·
  rcases Nat.lt_or_ge r.length R.mx with e | e
  ·
   exact e
  ·
   exact absurd (.inl rfl) (h R.mx (by omega) e)
 ·
  omega
theorem Rule.Pcs.bounds {R : Rule} (ok : R.ok) {l : List Nat} {ps : List (List Nat)} {r : List Nat} (h : R.Pcs l ps r) : ∀ p ∈ ps, R.mn ≤ p.length ∧ p.length ≤ R.mx := by
 induction h with
 | stop _ => intro p hp; cases hp
 | go h1 h2 _ ih =>
  intro p hp
  rcases List.mem_cons.1 hp with rfl | hp
  ·
   rw [List.length_take, Nat.min_eq_left h2.le]; exact R.end_bounds ok h2 h1
  ·
   exact ih p hp
theorem Rule.Pcs.count {R : Rule} {l : List Nat} {ps : List (List Nat)} {r : List Nat} (h : R.Pcs l ps r) : ps.length + r.length ≤ l.length := by
 induction h with
 | stop _ => simp
 | go h1 h2 _ ih =>
  rw [List.length_drop] at ih
  have := h2.le
  rw [List.length_cons]
  omega
def cutOf (ps : List (List Nat)) (r : List Nat) : List (List Nat) := if r = [] then ps else ps ++ [r]
def Rule.Cuts (R : Rule) (l : List Nat) (cs : List (List Nat)) : Prop := ∃ ps r, R.Pcs l ps r ∧ cs = cutOf ps r
theorem Rule.Cuts.unique {R : Rule} {l : List Nat} {cs ds : List (List Nat)} (h : R.Cuts l cs) (g : R.Cuts l ds) : cs = ds := by
 obtain ⟨ps, r, h, rfl⟩ := h
 obtain ⟨qs, t, g, rfl⟩ := g
 obtain ⟨rfl, rfl⟩ := h.unique g
 rfl
theorem Rule.Cuts.join {R : Rule} {l : List Nat} {cs : List (List Nat)} (h : R.Cuts l cs) : cs.flatten = l := by
 obtain ⟨ps, r, h, rfl⟩ := h
 have := h.join
 unfold cutOf
 split
 ·
  rename_i e; subst e; simpa using this
 ·
  simpa using this
theorem Rule.Cuts.nil {R : Rule} : R.Cuts [] [] := ⟨[], [], .nil, rfl⟩
theorem Rule.Cuts.tail {R : Rule} {l p : List Nat} {cs : List (List Nat)} (h : R.Cuts l (p :: cs)) : R.Cuts cs.flatten cs := by
 obtain ⟨ps, r, h, e⟩ := h
 cases h with
 | stop h0 =>
  unfold cutOf at e
  split at e
  ·
   cases e
  ·
   simp only [List.nil_append, List.cons.injEq] at e
   obtain ⟨_, rfl⟩ := e
   exact Rule.Cuts.nil
 | @go _ k qs _ h1 h2 h3 =>
  have e2 : cs = cutOf qs r := by
   unfold cutOf at e ⊢
   split at e
   ·
    rename_i er; rw [if_pos er]; simp only [List.cons.injEq] at e; exact e.2
   ·
    rename_i er; rw [if_neg er]; simp only [List.cons_append, List.cons.injEq] at e; exact e.2
  have : R.Cuts (l.drop k) cs := ⟨qs, r, h3, e2⟩
  rw [this.join]
  exact this
theorem Rule.Cuts.drop {R : Rule} : ∀ {cs : List (List Nat)} {l : List Nat} (_ : R.Cuts l cs) (i : Nat), R.Cuts (cs.drop i).flatten (cs.drop i)
 | cs, l, h, 0 => by rw [List.drop_zero, h.join]; exact h
 | [], l, h, i + 1 => by simp only [List.drop_nil]; exact Rule.Cuts.nil
 | p :: cs, l, h, i + 1 => by rw [List.drop_succ_cons]; exact Rule.Cuts.drop h.tail i
theorem Rule.Cuts.bounds {R : Rule} (ok : R.ok) {l : List Nat} {cs : List (List Nat)} (h : R.Cuts l cs) (i : Nat) (hi : i < cs.length) :
  1 ≤ cs[i].length ∧ cs[i].length ≤ R.mx ∧ (i + 1 < cs.length → R.mn ≤ cs[i].length) := by
 obtain ⟨ps, r, h, rfl⟩ := h
 have hb := h.bounds ok
 have hr := R.rest_bound ok h.rest
 obtain ⟨o1, o2⟩ := ok
 unfold cutOf at hi ⊢
 split at hi
 ·
  rename_i er
  have := hb _ (List.getElem_mem hi)
  simp only [er, if_true]
  exact ⟨by omega, this.2, fun _ => this.1⟩
 ·
  rename_i er
  simp only [er, if_false]
  rw [List.length_append, List.length_singleton] at hi
  rcases Nat.lt_or_ge i ps.length with e | e
  ·
   have := hb _ (List.getElem_mem e)
   rw [List.getElem_append_left e]
   exact ⟨by omega, this.2, fun _ => this.1⟩
  ·
   obtain rfl : i = ps.length := by omega
   rw [List.getElem_append_right (Nat.le_refl _)]
   simp only [Nat.sub_self, List.getElem_cons_zero, List.length_append, List.length_singleton]
   have : r.length ≠ 0 := fun e => er (List.eq_nil_of_length_eq_zero e)
   exact ⟨by omega, by omega, fun h => by omega⟩
inductive Fxd (n : Nat) : List Nat → List (List Nat) → Prop
 | nil : Fxd n [] []
 | cons {l : List Nat} {ps : List (List Nat)} : l.length ≠ 0 → Fxd n (l.drop (min n l.length)) ps → Fxd n l (l.take (min n l.length) :: ps)
theorem Fxd.join {n : Nat} {l : List Nat} {ps : List (List Nat)} (h : Fxd n l ps) : ps.flatten = l := by
 induction h with
 | nil => rfl
 | cons _ _ ih => rw [List.flatten_cons, ih, List.take_append_drop]
theorem Fxd.bounds {n : Nat} (hn : 1 ≤ n) {l : List Nat} {ps : List (List Nat)} (h : Fxd n l ps) : ∀ (i : Nat) (hi : i < ps.length), 1 ≤ ps[i].length ∧ ps[i].length ≤ n ∧ (i + 1 < ps.length → n ≤ ps[i].length) := by
 induction h with
 | nil => intro i hi; simp at hi
 | @cons l ps h0 h1 ih =>
  intro i hi
  cases i with
  | zero =>
   simp only [List.getElem_cons_zero, List.length_take, List.length_cons]
   refine ⟨by omega, by omega, fun h => ?_⟩
   rcases Nat.lt_or_ge l.length n with e | e
   ·
    exfalso
    cases h1' : ps with
    | nil => subst h1'; simp at h
    | cons p qs =>
     rw [h1', Nat.min_eq_right (by omega), List.drop_length] at h1
     cases h1 with
     | cons h2 _ => simp at h2
   ·
    omega
  | succ i =>
   have := ih i (by simpa using hi)
   simp only [List.getElem_cons_succ, List.length_cons]
   exact ⟨this.1, this.2.1, fun h => this.2.2 (by omega)⟩
end Plain
end Go.Proofs.YtbfoonfbhebhfaaGreatDoor
namespace Go.Proofs.YtbfoonfbhebhfaaGreatDoor
open Go.RowKit Plain
theorem byte_at (s : ByteArray) (k : Nat) (h : k < s.size) : (s[k]).toNat = (strN s).getD k 0 := by
 rw [← strN_getD, List.getD_eq_getElem?_getD, List.getElem?_eq_getElem (by rw [Array.length_toList]; exact h)]
 rfl
theorem range_of_row {w : World} {b : Nat} {t : TypeId} {cs : Array Value} (h : w.heap[b]? = some (.cells cs t (0, 0))) : w.rangeAt b 0 cs.toList := by
 intro j v hv
 rw [cell_of_row _ _ _ _ _ _ h]
 simpa using hv
theorem rof_bound (l : List Nat) (h : ∀ c ∈ l, c < 256) : rof l < 2147483648 := rof_lt l h
theorem take_getD_succ (l : List Nat) (k : Nat) (h : k < l.length) : l.take (k + 1) = l.take k ++ [l.getD k 0] := by
 rw [List.take_succ_eq_append_getElem h, List.getD_eq_getElem?_getD, List.getElem?_eq_getElem h]
 rfl
def cutRule (mn mx b : Nat) : Rule := ⟨mn, mx, fun l => rof l % 2 ^ b == 0⟩
def cutV (mn mx b : Nat) : Value := .agg #[.int .i64 (mn : Int), .int .i64 (mx : Int), .int .i64 (b : Int)]
def EndEnd (w0 : World) (R : Rule) (l : List Nat) (e : Ending) (w : World) : Prop := ∃ k : Nat, R.End l k ∧ e = .returned (.int .i64 (k : Int)) ∧ Below w0.heap.size w0 w
theorem and_low (x b : Nat) (hx : x < 2147483648) (hb : b ≤ 12) : bits .and .u32 (x : Int) (((2 : Int) ^ b - 1) % 4294967296) = ((x % 2 ^ b : Nat) : Int) := by
 have hb2 : 2 ^ b ≤ 2 ^ 12 := Nat.pow_le_pow_right (by decide) hb
 have hp := Nat.two_pow_pos b
 have h := u32_and_nat x (2 ^ b - 1) (by omega) (by omega)
 rw [Nat.and_two_pow_sub_one_eq_mod] at h
 have e : (((2 : Int) ^ b - 1) % 4294967296) = ((2 ^ b - 1 : Nat) : Int) := by
  have : ((2 : Int) ^ b) = ((2 ^ b : Nat) : Int) := by simp
  rw [this]
  omega
 rw [e]
 exact h
def Head (w : World) (mn mx b : Nat) (l : List Nat) (k : Nat) (wr : World) : Prop :=
 ∃ win', Win (l.take k) win' ∧ wr.heap[w.heap.size]? = some (.cells #[.int .i64 (mn : Int), .int .i64 (mx : Int), .int .i64 (b : Int)] 23 (0, 0)) ∧ wr.heap[w.heap.size + 1]? = some (.cells (rC win' ((l.take k).length % 16) (rof (l.take k))) 237 (0, 0)) ∧ Below w.heap.size w wr
set_option maxRecDepth 100000 in
set_option maxHeartbeats 2000000 in
theorem end_any (mn mx b : Nat) (s : ByteArray) (w : World) (hb1 : b ≤ 12) (hs : s.size ≤ 9223372036854775806) :
  Calls Tryz.prog 147 #[cutV mn mx b, .string s] w (EndEnd w (cutRule mn mx b) (strN s)) := by
 have i46' : (Tryz.prog.info? 237).map (·.size) = some 18 := by kernel_rfl
 have i46 := Lib.hid i46'
 have H0 : Hid (Head w mn mx b (strN s) 0 ((w.alloc (.cells #[.int .i64 (mn : Int), .int .i64 (mx : Int), .int .i64 (b : Int)] 23)).alloc (.cells #[Value.int IntKind.u8 0, Value.int IntKind.u8 0, Value.int IntKind.u8 0, Value.int IntKind.u8 0, Value.int IntKind.u8 0, Value.int IntKind.u8 0, Value.int IntKind.u8 0, Value.int IntKind.u8 0, Value.int IntKind.u8 0, Value.int IntKind.u8 0, Value.int IntKind.u8 0, Value.int IntKind.u8 0, Value.int IntKind.u8 0, Value.int IntKind.u8 0, Value.int IntKind.u8 0, Value.int IntKind.u8 0, Value.int IntKind.i64 0, Value.int IntKind.u32 0] 237))) := by
  refine ⟨List.replicate 16 0, by simpa using Win.nil, ?_, ?_, ((Below.refl _ _).alloc (Nat.le_refl _) _).alloc (by simp) _⟩
  ·
   exact (Below.heap_alloc _ _ _ (by simp)).trans (heap_alloc_new w _)
  ·
   have := heap_alloc_new (w.alloc (.cells #[.int .i64 (mn : Int), .int .i64 (mx : Int), .int .i64 (b : Int)] 23)) (.cells #[Value.int IntKind.u8 0, Value.int IntKind.u8 0, Value.int IntKind.u8 0, Value.int IntKind.u8 0, Value.int IntKind.u8 0, Value.int IntKind.u8 0, Value.int IntKind.u8 0, Value.int IntKind.u8 0, Value.int IntKind.u8 0, Value.int IntKind.u8 0, Value.int IntKind.u8 0, Value.int IntKind.u8 0, Value.int IntKind.u8 0, Value.int IntKind.u8 0, Value.int IntKind.u8 0, Value.int IntKind.u8 0, Value.int IntKind.i64 0, Value.int IntKind.u32 0] 237)
   rw [World.size_alloc] at this
   exact this
 have hlen : s.size = (strN s).length := (strN_length s).symm
 have HLEN := Lib.hid hlen
 clear hlen i46'
 have N64 : (s.size : Int) ≤ 9223372036854775806 := by omega
 unfold cutV
 go_enter Tryz.func147, Tryz.ntmps147
 go_wp2_with fail
 go_loopw [10] (fun i wr => ∃ k : Nat, k ≤ s.size ∧ Head w mn mx b (strN s) k wr ∧ (∀ j, 1 ≤ j → j ≤ k → ¬ (cutRule mn mx b).hit (strN s) j) ∧ i = .int .i64 k) (fun i _ => s.size - (intOf i).toNat)
 case atStart => exact ⟨0, Nat.zero_le _, H0.out, (fun j h1 h2 => by omega), rfl⟩
 case round =>
  obtain ⟨k, hk, hhead, hno, rfl⟩ := hrel
  clear H0
  have HNO := Lib.hid hno
  clear hno
  by_cases hlt : k < s.size
  ·
   obtain ⟨wn, hwn, hC, hR, hB⟩ := hhead
   have HWN := Lib.hid hwn
   have RC := Lib.hid hC
   have R := Lib.hid hR
   have BW := Lib.hid hB
   clear hC hR hB
   have hl : Hid (∀ c ∈ (strN s).take k, c < 256) := fun c hc => strN_lt s c (List.mem_of_mem_take hc)
   have hl2 : Hid (∀ c ∈ (strN s).take (k + 1), c < 256) := fun c hc => strN_lt s c (List.mem_of_mem_take hc)
   have hst : (strN s).take (k + 1) = (strN s).take k ++ [(s[k]'hlt).toNat] := by rw [byte_at s k hlt]; exact take_getD_succ _ k (by rw [← HLEN.out]; exact hlt)
   have hb256 : (s[k]'hlt).toNat < 256 := UInt8.toNat_lt _
   have hsum := rof_bound _ hl.out
   have hsum2 := rof_bound _ hl2.out
   have hpush := rof_push ((strN s).take k) (s[k]'hlt).toNat
   rw [← hwn.old] at hpush
   have hwn2 := hwn.push (s[k]'hlt).toNat hb256
   have hat : ((strN s).take k).length % 16 < 16 := Nat.mod_lt _ (by decide)
   have hat2 : (((strN s).take k).length % 16 + 1) % 16 = ((strN s).take (k + 1)).length % 16 := by
    rw [hst, List.length_append, List.length_singleton]; omega
   have HP := Lib.hid fun wx => push_any wn (((strN s).take k).length % 16) (rof ((strN s).take k)) (s[k]'hlt).toNat wx hwn.1 hwn.2.1 hat hsum hb256
   rw [← hst] at hpush hwn2
   rw [← hpush, hat2] at HP
   have HWN2 := Lib.hid hwn2
   have s1 : Hid ((rC wn (((strN s).take k).length % 16) (rof ((strN s).take k))).size = 18) := rC_size _ _ _ hwn.1
   have s2 : Hid ((rC (wn.set (((strN s).take k).length % 16) (s[k]'hlt).toNat) (((strN s).take (k + 1)).length % 16) (rof ((strN s).take (k + 1)))).size = 18) := rC_size _ _ _ hwn2.1
   have o2 : Hid ((rC (wn.set (((strN s).take k).length % 16) (s[k]'hlt).toNat) (((strN s).take (k + 1)).length % 16) (rof ((strN s).take (k + 1)))).all (·.oneCell') = true) := rC_one _ _ _
   have q17 : Hid ((rC (wn.set (((strN s).take k).length % 16) (s[k]'hlt).toNat) (((strN s).take (k + 1)).length % 16) (rof ((strN s).take (k + 1))))[17]? = some (.int .u32 (rof ((strN s).take (k + 1)) : Int))) := rC_sum _ _ _ hwn2.1
   have HMOD : Hid ((cutRule mn mx b).hit (strN s) (k + 1) ↔ (k + 1 = mx ∨ (mn ≤ k + 1 ∧ rof ((strN s).take (k + 1)) % 2 ^ b = 0))) := by
    show _ ↔ _
    unfold Rule.hit cutRule
    simp only [beq_iff_eq]
   have AND := and_low (rof ((strN s).take (k + 1))) b (by omega) hb1
   clear hst hsum hpush hwn2 hat hat2 hwn
   generalize wn.set (((strN s).take k).length % 16) (s[k]'hlt).toNat = wn2 at *
   obtain ⟨SM, hSM⟩ : ∃ SM, SM = rof ((strN s).take (k + 1)) := ⟨_, rfl⟩
   rw [← hSM] at HP s2 o2 q17 HMOD AND hsum2
   have HSM := Lib.hid hSM
   clear hSM
   obtain ⟨C2, hC2⟩ : ∃ C2, C2 = rC wn2 (((strN s).take (k + 1)).length % 16) SM := ⟨_, rfl⟩
   obtain ⟨C1, hC1⟩ : ∃ C1, C1 = rC wn (((strN s).take k).length % 16) (rof ((strN s).take k)) := ⟨_, rfl⟩
   rw [← hC2] at HP s2 o2 q17
   rw [← hC1] at HP s1 R
   have HC2 := Lib.hid hC2
   clear hC1 hC2 hl hl2
   have kk : (k : Int) < (s.size : Int) := by omega
   have k0 : (0 : Int) ≤ (k : Int) := Int.natCast_nonneg _
   have ic1 : (Tryz.prog.info? 237).map (·.size) = some C1.toList.length := by rw [Array.length_toList, s1.out]; exact i46.out
   have ic2 : (Tryz.prog.info? 237).map (·.size) = some C2.size := by rw [s2.out]; exact i46.out
   have hu := Tryz.underlying237
   have HAND := Lib.hid AND
   clear AND
   go_wp2_with fail
   refine wp_region_noPanic ?_
   refine wp_region_held_drew (S := fun _ => True) (by kernel_rfl) trivial (fun _ => ?_)
   have Rv : Hid (wr.drew.heap[w.heap.size + 1]? = some (.cells C1 237 (0, 0))) := R.out
   have Cv : Hid (wr.drew.heap[w.heap.size]? = some (.cells #[.int .i64 (mn : Int), .int .i64 (mx : Int), .int .i64 (b : Int)] 23 (0, 0))) := RC.out
   have Bv : Hid (Below w.heap.size w wr.drew) := BW.out.drew
   clear R RC BW
   generalize wr.drew = v0 at *
   refine take_val 1 (.string s) rfl (by kernel_rfl) (by kernel_rfl) (by kernel_rfl) (fun _ _ _ _ h => h) (by rfl) rfl (fun w _ => by go_simp) trivial ?_
   try simp only [List.set_cons_zero, List.set_cons_succ]
   refine take_val 2 (.int .i64 (k : Int)) rfl (by kernel_rfl) (by kernel_rfl) (by kernel_rfl) (fun _ _ _ _ h => h) (by rfl) rfl (fun w _ => by go_simp) trivial ?_
   try simp only [List.set_cons_zero, List.set_cons_succ]
   refine take_val 3 (.int .u8 (((s[k]'hlt).toNat : Nat) : Int)) rfl (by kernel_rfl) (by kernel_rfl) (by kernel_rfl) (fun _ _ _ _ h => h) (by rfl) rfl (fun w _ => by go_simp) trivial ?_
   try simp only [List.set_cons_zero, List.set_cons_succ]
   refine one_ready 0 (by kernel_rfl) rfl (by rfl) (fun K hK => ?_)
   refine wp_load_mid _ _ rfl (w.heap.size + 1) 0 rfl C1.toList _ (range_of_row Rv.out) hu rfl ic1 ?_
   rw [put_eq rfl]
   try simp only [List.set_cons_zero, List.set_cons_succ, Array.toArray_toList]
   refine hK.out _ _ trivial ?_
   clear hK K
   refine one_ready 4 (by kernel_rfl) rfl (by rfl) (fun K hK => ?_)
   go_simp
   refine (HP.out _).mono ?_
   rintro e v1 ⟨rfl, hb1⟩
   go_wp2_with fail
   refine hK.out _ _ trivial ?_
   clear hK K
   try simp only [Act.put, List.setIfInBounds_toArray, List.set_cons_zero, List.set_cons_succ]
   have R1 := (hb1.block _ (lt_of_block Rv.out)).trans Rv.out
   have T1 := (hb1.block _ (lt_of_block Cv.out)).trans Cv.out
   have B1 := Below.step Bv.out hb1
   have hth : Hid (v1.there (w.heap.size + 1) 0 C2.size) := by have := row_there R1; rw [s1.out] at this; rw [s2.out]; exact this
   have R2 : Hid ((v1.setCells (w.heap.size + 1) 0 C2.toList).heap[w.heap.size + 1]? = some (.cells C2 237 (0, 0))) := setCells_full R1 _ (by rw [s1.out, s2.out])
   have T2 : Hid ((v1.setCells (w.heap.size + 1) 0 C2.toList).heap[w.heap.size]? = some (.cells #[.int .i64 (mn : Int), .int .i64 (mx : Int), .int .i64 (b : Int)] 23 (0, 0))) := (heap_setCells_other _ _ (by omega) _ _ _).trans T1
   have B2 : Hid (Below w.heap.size w (v1.setCells (w.heap.size + 1) 0 C2.toList)) := below_setCells (by omega) _ _ B1
   clear Rv Cv Bv R1 T1 B1 hb1 HP
   refine take_val 5 (.tuple #[.agg C2, .int .i64 0]) rfl (by kernel_rfl) (by kernel_rfl) (by kernel_rfl) (fun _ _ _ _ h => h) (by rfl) rfl (fun w _ => by go_simp) trivial ?_
   try simp only [List.set_cons_zero, List.set_cons_succ]
   refine take_val 6 (.agg C2) rfl (by kernel_rfl) (by kernel_rfl) (by kernel_rfl) (fun _ _ _ _ h => h) (by rfl) rfl (fun w _ => by go_simp) trivial ?_
   try simp only [List.set_cons_zero, List.set_cons_succ]
   refine take_val 7 (.int .i64 0) rfl (by kernel_rfl) (by kernel_rfl) (by kernel_rfl) (fun _ _ _ _ h => h) (by rfl) rfl (fun w _ => by go_simp) trivial ?_
   try simp only [List.set_cons_zero, List.set_cons_succ]
   refine one_ready 8 (by kernel_rfl) rfl (by rfl) (fun K hK => ?_)
   refine wp_store_mid _ _ _ rfl (w.heap.size + 1) 0 C2 rfl rfl hth.out ic2 o2.out ?_
   refine hK.out _ _ trivial ?_
   clear hK K
   try simp only [Act.put]
   clear hth
   generalize v1.setCells (w.heap.size + 1) 0 C2.toList = v2 at *
   refine wpAnyH_done (by kernel_rfl) ?_ _
   refine NoPanic.normal ?_
   have c0 := cell_of_row v2 w.heap.size 0 _ _ _ T2.out
   have c1 := cell_of_row v2 w.heap.size 1 _ _ _ T2.out
   have c2 := cell_of_row v2 w.heap.size 2 _ _ _ T2.out
   have c17 := (cell_of_row v2 (w.heap.size + 1) 17 _ _ _ R2.out).trans q17.out
   simp only [List.getElem?_toArray, List.getElem?_cons_zero, List.getElem?_cons_succ] at c0 c1 c2
   have HQ : Hid (Head w mn mx b (strN s) (k + 1) v2) := ⟨wn2, HWN2.out, T2.out, by have h := R2.out; rw [HC2.out, HSM.out] at h; exact h, B2.out⟩
   have BV := Lib.hid B2.out
   clear T2 R2 B2 q17 o2 s1 s2 ic1 ic2 i46 hu HWN HWN2
   have e1 : IntKind.i64.wrap ((k : Int) + 1) = (k : Int) + 1 := IntWalk.i64_in _ (by omega)
   by_cases g1 : k + 1 = mx
   ·
    have HE : Hid ((cutRule mn mx b).End (strN s) (k + 1)) := .inr ⟨by omega, by rw [← HLEN.out]; omega, HMOD.out.2 (.inl g1), fun j h1 h2 => HNO.out j h1 (by omega)⟩
    have f1 : (((k : Int) + 1) == (mx : Int)) = true := beq_iff_eq.2 (by omega)
    clear HMOD HNO
    go_wp2_with fail
    go_quiet (fail)
    go_wp2_with fail
    go_ret
    exact ⟨k + 1, HE.out, rfl, by first | exact BV.out | exact below_dn BV.out _⟩
   ·
    have f1 : (((k : Int) + 1) == (mx : Int)) = false := beq_eq_false_iff_ne.2 (by omega)
    by_cases g2 : mn ≤ k + 1
    ·
     have f2 : decide ((mn : Int) ≤ (k : Int) + 1) = true := by simp; omega
     by_cases g3 : SM % 2 ^ b = 0
     ·
      have HE : Hid ((cutRule mn mx b).End (strN s) (k + 1)) := .inr ⟨by omega, by rw [← HLEN.out]; omega, HMOD.out.2 (.inr ⟨g2, g3⟩), fun j h1 h2 => HNO.out j h1 (by omega)⟩
      have f3 : (bits .and .u32 (SM : Int) (((2 : Int) ^ b - 1) % 4294967296) == 0) = true := by rw [HAND.out, g3]; rfl
      clear HMOD HNO HAND g3
      go_wp2_with fail
      go_quiet (fail)
      go_wp2_with fail
      go_ret
      exact ⟨k + 1, HE.out, rfl, below_dn BV.out _⟩
     ·
      have HN2 : Hid (∀ j, 1 ≤ j → j ≤ k + 1 → ¬ (cutRule mn mx b).hit (strN s) j) := fun j h1 h2 => by
       by_cases e : j = k + 1
       ·
        subst e; intro h; rcases HMOD.out.1 h with h | h
        ·
         exact g1 h
        ·
         exact g3 h.2
       ·
        exact HNO.out j h1 (by omega)
      have f3 : (bits .and .u32 (SM : Int) (((2 : Int) ^ b - 1) % 4294967296) == 0) = false := by rw [HAND.out]; exact beq_eq_false_iff_ne.2 (by omega)
      have HQ2 : Hid (∀ n, Head w mn mx b (strN s) (k + 1) (v2.drewN n)) := fun n => by
       obtain ⟨a1, a2, a3, a4, a5⟩ := HQ.out
       exact ⟨a1, a2, a3, a4, below_dn a5 n⟩
      clear HMOD HNO HAND g3
      go_wp2_with fail
      go_quiet (fail)
      go_wp2_with fail
      go_roundw
      case rel => exact ⟨k + 1, by omega, HQ2.out _, HN2.out, by go_num⟩
      case measure => simp [intOf]; omega
    ·
     have f2 : decide ((mn : Int) ≤ (k : Int) + 1) = false := by simp; omega
     have HN2 : Hid (∀ j, 1 ≤ j → j ≤ k + 1 → ¬ (cutRule mn mx b).hit (strN s) j) := fun j h1 h2 => by
      by_cases e : j = k + 1
      ·
       subst e; intro h; rcases HMOD.out.1 h with h | h
       ·
        exact g1 h
       ·
        exact g2 h.1
      ·
       exact HNO.out j h1 (by omega)
     have HQ2 : Hid (∀ n, Head w mn mx b (strN s) (k + 1) (v2.drewN n)) := fun n => by
      obtain ⟨a1, a2, a3, a4, a5⟩ := HQ.out
      exact ⟨a1, a2, a3, a4, below_dn a5 n⟩
     clear HMOD HNO HAND
     go_wp2_with fail
     go_quiet (fail)
     go_wp2_with fail
     go_roundw
     case rel => exact ⟨k + 1, by omega, HQ2.out _, HN2.out, by go_num⟩
     case measure => simp [intOf]; omega
  ·
   obtain ⟨_, _, _, _, hB⟩ := hhead
   have BV := Lib.hid hB
   have HE : Hid ((cutRule mn mx b).End (strN s) 0) := .inl ⟨rfl, fun j h1 h2 => HNO.out j h1 (by rw [← HLEN.out] at h2; omega)⟩
   have m1 : ¬ (k : Int) < (s.size : Int) := by omega
   clear HNO hB
   go_wp2_with fail
   go_ret
   exact ⟨0, HE.out, rfl, BV.out⟩
end Go.Proofs.YtbfoonfbhebhfaaGreatDoor
namespace Go.Proofs.YtbfoonfbhebhfaaGreatDoor
open Go.RowKit Plain
theorem strN_take (s : ByteArray) (k : Nat) : strN (s.extract 0 k) = (strN s).take k := by
 rw [extract_strN', List.drop_zero, Nat.sub_zero]
theorem strN_drop (s : ByteArray) (k : Nat) : strN (s.extract k s.size) = (strN s).drop k := extract_strN s k
def PcEnd (w0 : World) (R : Rule) (s : ByteArray) (e : Ending) (w : World) : Prop :=
 ∃ (ps : List ByteArray) (r : ByteArray) (a : Option Addr) (c : Nat), R.Pcs (strN s) (ps.map strN) (strN r) ∧ ps.length + r.size ≤ s.size ∧ e = .returned (.tuple #[.slice a ps.length c, .string r]) ∧ w.ownsRow w0.heap.size 9 1 (.slice a ps.length c) ps.length (ps.flatMap sC) ∧ Below w0.heap.size w0 w
def Pre (R : Rule) (s : ByteArray) (ps : List ByteArray) (r : ByteArray) : Prop :=
 ps.length + r.size ≤ s.size ∧ ∀ qs t, R.Pcs (strN r) qs t → R.Pcs (strN s) (ps.map strN ++ qs) t
theorem Pre.start (R : Rule) (s : ByteArray) : Pre R s [] s := ⟨by simp, fun _ _ h => h⟩
theorem Pre.step {R : Rule} {s : ByteArray} {ps : List ByteArray} {r : ByteArray} (h : Pre R s ps r) {k : Nat} (hk : 1 ≤ k) (he : R.End (strN r) k) : Pre R s (ps ++ [r.extract 0 k]) (r.extract k r.size) := by
 have hl := he.le
 rw [strN_length] at hl
 refine ⟨?_, fun qs t g => ?_⟩
 ·
  have := h.1
  rw [List.length_append, List.length_singleton, ByteArray.size_extract]
  omega
 ·
  rw [strN_drop] at g
  have := h.2 _ _ (Rule.Pcs.go hk he g)
  rw [List.map_append, List.append_assoc, List.map_cons, List.map_nil, strN_take]
  exact this
theorem Pre.stop {R : Rule} {s : ByteArray} {ps : List ByteArray} {r : ByteArray} (h : Pre R s ps r) (he : R.End (strN r) 0) : R.Pcs (strN s) (ps.map strN) (strN r) := by
 have := h.2 [] (strN r) (.stop he)
 simpa using this
set_option maxRecDepth 100000 in
set_option maxHeartbeats 2000000 in
theorem pieces_any (mn mx b : Nat) (s : ByteArray) (w : World) (hb1 : b ≤ 12) (hs : s.size ≤ 4096) :
  Calls Tryz.prog 138 #[cutV mn mx b, .string s] w (PcEnd w (cutRule mn mx b) s) := by
 obtain ⟨i0, hi0, hz0, hz1, hz2⟩ := info_parts info_str
 have HEND := Lib.hid fun (r : ByteArray) (hr : r.size ≤ 4096) u => end_any mn mx b r u hb1 (by omega)
 have HC0 : Hid ((w.alloc (.cells #[.int .i64 (mn : Int), .int .i64 (mx : Int), .int .i64 (b : Int)] 23)).heap[w.heap.size]? = some (.cells #[.int .i64 (mn : Int), .int .i64 (mx : Int), .int .i64 (b : Int)] 23 (0, 0))) := heap_alloc_new w _
 have HB0 := Lib.hid ((Below.refl w.heap.size w).alloc (Nat.le_refl _) (.cells #[.int .i64 (mn : Int), .int .i64 (mx : Int), .int .i64 (b : Int)] 23))
 have HB1 := Lib.hid (Below.refl (w.heap.size + 1) (w.alloc (.cells #[.int .i64 (mn : Int), .int .i64 (mx : Int), .int .i64 (b : Int)] 23)))
 unfold cutV at HEND ⊢
 go_enter Tryz.func138, Tryz.ntmps138
 go_wp2_with fail
 go_loopw [1, 6] (fun sv ov wr => ∃ (ps : List ByteArray) (r : ByteArray) (oa : Option Addr) (oc : Nat), sv = .string r ∧ ov = .slice oa ps.length oc ∧ Pre (cutRule mn mx b) s ps r ∧ wr.ownsRow (w.heap.size + 1) 9 1 (.slice oa ps.length oc) ps.length (ps.flatMap sC) ∧ wr.heap[w.heap.size]? = some (.cells #[.int .i64 (mn : Int), .int .i64 (mx : Int), .int .i64 (b : Int)] 23 (0, 0)) ∧ Below w.heap.size w wr) (fun sv _ _ => szV sv)
 case atStart => exact ⟨[], s, none, 0, rfl, rfl, Pre.start _ _, World.ownsRow_nil _ _ _ _, HC0.out, HB0.out⟩
 case round =>
  obtain ⟨ps, r, oa, oc, rfl, rfl, hpre, hown, hc, hbr⟩ := hrel
  have HPRE := Lib.hid hpre
  have HOWN := Lib.hid hown
  have HBR := Lib.hid hbr
  have HC := Lib.hid hc
  have hp1 := hpre.1
  have HE1 := Lib.hid (HEND.out r (by omega))
  have c0 := cell_of_row wr w.heap.size 0 _ _ _ hc
  have c1 := cell_of_row wr w.heap.size 1 _ _ _ hc
  have c2 := cell_of_row wr w.heap.size 2 _ _ _ hc
  simp only [List.getElem?_toArray, List.getElem?_cons_zero, List.getElem?_cons_succ] at c0 c1 c2
  clear hpre hown hbr hc HC0 HB0 HB1 HEND
  go_wp2_with fail
  refine (HE1.out _).mono ?_
  rintro e w1 ⟨k, hend, rfl, hb1⟩
  have hkl : k ≤ r.size := by have := hend.le; rwa [strN_length] at this
  have HO1 := Lib.hid (own_below' HOWN.out hb1)
  have HB1 := Lib.hid (Below.step HBR.out hb1)
  have HC1 := Lib.hid ((hb1.block _ (lt_of_block HC.out)).trans HC.out)
  have hw1 : w.heap.size + 1 ≤ w1.heap.size := lt_of_block HC1.out
  clear hb1 c0 c1 c2
  by_cases h0 : k = 0
  ·
   subst h0
   have HST := Lib.hid (HPRE.out.stop hend)
   clear hend
   go_wp2_with fail
   go_ret2
   exact ⟨ps, r, oa, oc, HST.out, hp1, rfl, ⟨HO1.out.1, by
    rcases HO1.out.2 with h | ⟨g, cap, cur, hv, hB, hg⟩
    ·
     exact .inl h
    ·
     exact .inr ⟨g, cap, cur, hv, by omega, hg⟩⟩, HB1.out⟩
  ·
   have f0 : ((k : Int) == 0) = false := beq_eq_false_iff_ne.2 (by omega)
   have HST := Lib.hid (HPRE.out.step (by omega) hend)
   have k0 : (0 : Int) ≤ (k : Int) := Int.natCast_nonneg _
   have k1 : (k : Int) ≤ (r.size : Int) := by omega
   have D1 := Lib.hid (cells_new_at w1 w1.heap.size rfl #[.string (r.extract 0 k)] 9 (sC (r.extract 0 k)) rfl)
   have D2 : Hid (∀ u ∈ sC (r.extract 0 k), u.oneCell' = true) := fun u hu => sC_one _ u hu
   have D3 : Hid (ps.length + 1 ≤ maxLen) := by show _ ≤ _; unfold maxLen; omega
   have D4 : Hid ((ps.length + 1) * 16 ≤ 140737488355328) := by show _ ≤ _; omega
   have D5 : Hid (w.heap.size + 1 ≤ (w1.alloc (.cells #[.string (r.extract 0 k)] 9)).heap.size) := by show _ ≤ _; simp; omega
   have D7 : (r.extract k r.size).size = r.size - k := by rw [ByteArray.size_extract]; omega
   have hk1 : 1 ≤ k := by omega
   clear hend h0
   go_wp2_with (at_builtin; refine wpList_append_own _ rfl _ _ 49 rfl (w.heap.size + 1) 9 i0 (.string ⟨#[]⟩) 1 16 Tryz.underlying49 hi0 hz0 hz1 hz2 rfl (by decide) _ _ _ rfl (HO1.out.alloc _) ⟨w1.heap.size, 0, none⟩ 1 1 (sC (r.extract 0 k)) rfl rfl D1.out D2.out D3.out D4.out D5.out ?_)
   intro v' w2 hown' hgrow _
   have BW := Lib.hid (below_own ((HB1.out.alloc (by omega) (.cells #[.string (r.extract 0 k)] 9))) hgrow (by simp; omega) (HO1.out.alloc _) (by omega))
   have HC2 := Lib.hid ((hgrow.block w.heap.size (by simp; omega) (fun e => by have := (HO1.out.lt _ e.symm).1; omega)).trans ((Below.heap_alloc _ _ _ (lt_of_block HC1.out)).trans HC1.out))
   obtain ⟨oa2, oc2, rfl⟩ := own_form' hown'
   have OW : Hid (w2.ownsRow (w.heap.size + 1) 9 1 (.slice oa2 (ps ++ [r.extract 0 k]).length oc2) (ps ++ [r.extract 0 k]).length ((ps ++ [r.extract 0 k]).flatMap sC)) := by
    show w2.ownsRow _ _ _ _ _ _
    rw [List.length_append, sCs_snoc]
    exact hown'
   clear hown' hgrow
   go_wp2_with fail
   go_roundw
   case rel => exact ⟨ps ++ [r.extract 0 k], r.extract k r.size, oa2, oc2, rfl, by rw [List.length_append]; rfl, HST.out, OW.out, HC2.out, BW.out⟩
   case measure => simp only [szV]; omega
def CkEnd (w0 : World) (mn mx b : Int) (e : Ending) (w : World) : Prop :=
 ((e = .returned (.int .i64 0) ∧ 16 ≤ mn ∧ mn ≤ mx ∧ mx ≤ 1024 ∧ 1 ≤ b ∧ b ≤ 12) ∨ (e = .returned (.int .i64 1) ∧ ¬ (16 ≤ mn ∧ mn ≤ mx ∧ mx ≤ 1024 ∧ 1 ≤ b ∧ b ≤ 12))) ∧ Below w0.heap.size w0 w
set_option maxRecDepth 100000 in
set_option maxHeartbeats 2000000 in
theorem ccheck_any (mn mx b : Int) (w : World) : Calls Tryz.prog 82 #[.agg #[.int .i64 mn, .int .i64 mx, .int .i64 b]] w (CkEnd w mn mx b) := by
 have HB0 := Lib.hid ((Below.refl w.heap.size w).alloc (Nat.le_refl _) (.cells #[.int .i64 mn, .int .i64 mx, .int .i64 b] 23))
 by_cases p0 : mn < 16
 ·
  have f0 : decide (mn < 16) = true := decide_eq_true p0
  go_enter Tryz.func82, Tryz.ntmps82
  go_wp2_with fail
  go_ret
  exact ⟨.inr ⟨rfl, by omega⟩, HB0.out⟩
 ·
  have f0 : decide (mn < 16) = false := decide_eq_false p0
  by_cases p1 : mx < mn
  ·
   have f1 : decide (mx < mn) = true := decide_eq_true p1
   go_enter Tryz.func82, Tryz.ntmps82
   go_wp2_with fail
   go_ret
   exact ⟨.inr ⟨rfl, by omega⟩, HB0.out⟩
  ·
   have f1 : decide (mx < mn) = false := decide_eq_false p1
   by_cases p2 : 1024 < mx
   ·
    have f2 : decide (1024 < mx) = true := decide_eq_true p2
    go_enter Tryz.func82, Tryz.ntmps82
    go_wp2_with fail
    go_ret
    exact ⟨.inr ⟨rfl, by omega⟩, HB0.out⟩
   ·
    have f2 : decide (1024 < mx) = false := decide_eq_false p2
    by_cases p3 : b < 1
    ·
     have f3 : decide (b < 1) = true := decide_eq_true p3
     go_enter Tryz.func82, Tryz.ntmps82
     go_wp2_with fail
     go_ret
     exact ⟨.inr ⟨rfl, by omega⟩, HB0.out⟩
    ·
     have f3 : decide (b < 1) = false := decide_eq_false p3
     by_cases p4 : 12 < b
     ·
      have f4 : decide (12 < b) = true := decide_eq_true p4
      go_enter Tryz.func82, Tryz.ntmps82
      go_wp2_with fail
      go_ret
      exact ⟨.inr ⟨rfl, by omega⟩, HB0.out⟩
     ·
      have f4 : decide (12 < b) = false := decide_eq_false p4
      go_enter Tryz.func82, Tryz.ntmps82
      go_wp2_with fail
      go_ret
      exact ⟨.inl ⟨rfl, by omega, by omega, by omega, by omega, by omega⟩, HB0.out⟩
def FxEnd (w0 : World) (n : Int) (s : ByteArray) (e : Ending) (w : World) : Prop :=
 (∃ (ps : List ByteArray) (a : Option Addr) (c : Nat) (d : Nat), n = (d : Int) ∧ Fxd d (strN s) (ps.map strN) ∧ 1 ≤ d ∧ ps.length ≤ s.size ∧ s.size ≤ 4096 ∧ e = .returned (.tuple #[.slice a ps.length c, .int .i64 0]) ∧ w.ownsRow w0.heap.size 9 1 (.slice a ps.length c) ps.length (ps.flatMap sC) ∧ Below w0.heap.size w0 w) ∨
 (∃ c : Nat, c ≠ 0 ∧ (n < 1 ∨ 1024 < n ∨ 4096 < s.size) ∧ e = .returned (.tuple #[.slice none 0 0, .int .i64 (c : Int)]) ∧ Below w0.heap.size w0 w)
set_option maxRecDepth 100000 in
set_option maxHeartbeats 2000000 in
theorem fixed_any (n : Int) (s : ByteArray) (w : World) (hs : s.size ≤ 9223372036854775807) : Calls Tryz.prog 106 #[.int .i64 n, .string s] w (FxEnd w n s) := by
 by_cases p0 : n < 1
 ·
  have f0 : decide (n < 1) = true := decide_eq_true p0
  go_enter Tryz.func106, Tryz.ntmps106
  go_wp2_with fail
  go_ret2
  exact .inr ⟨1, by decide, .inl p0, rfl, Below.refl _ _⟩
 ·
  have f0 : decide (n < 1) = false := decide_eq_false p0
  by_cases p1 : 1024 < n
  ·
   have f1 : decide (1024 < n) = true := decide_eq_true p1
   go_enter Tryz.func106, Tryz.ntmps106
   go_wp2_with fail
   go_ret2
   exact .inr ⟨1, by decide, .inr (.inl p1), rfl, Below.refl _ _⟩
  ·
   have f1 : decide (1024 < n) = false := decide_eq_false p1
   obtain ⟨d, rfl⟩ := Int.eq_ofNat_of_zero_le (show 0 ≤ n by omega)
   by_cases p2 : 4096 < s.size
   ·
    have f2 : (4096 : Int) < (s.size : Int) := by omega
    go_enter Tryz.func106, Tryz.ntmps106
    go_wp2_with fail
    go_ret2
    exact .inr ⟨2, by decide, .inr (.inr p2), rfl, Below.refl _ _⟩
   ·
    have f2 : ¬ (4096 : Int) < (s.size : Int) := by omega
    obtain ⟨i0, hi0, hz0, hz1, hz2⟩ := info_parts info_str
    go_enter Tryz.func106, Tryz.ntmps106
    go_wp2_with fail
    go_loopw [1, 6] (fun sv ov wr => ∃ (ps : List ByteArray) (r : ByteArray) (oa : Option Addr) (oc : Nat), sv = .string r ∧ ov = .slice oa ps.length oc ∧ (∀ qs, Fxd d (strN r) qs → Fxd d (strN s) (ps.map strN ++ qs)) ∧ ps.length + r.size ≤ s.size ∧ wr.ownsRow w.heap.size 9 1 (.slice oa ps.length oc) ps.length (ps.flatMap sC) ∧ Below w.heap.size w wr) (fun sv _ _ => szV sv)
    case atStart => exact ⟨[], s, none, 0, rfl, rfl, fun _ h => h, by simp, World.ownsRow_nil _ _ _ _, Below.refl _ _⟩
    case round =>
     obtain ⟨ps, r, oa, oc, rfl, rfl, hpre, hp1, hown, hbr⟩ := hrel
     have HPRE := Lib.hid hpre
     have HOWN := Lib.hid hown
     have HBR := Lib.hid hbr
     have hw1 := hbr.size
     clear hpre hown hbr
     by_cases h0 : r.size = 0
     ·
      have f3 : ¬ (0 : Int) < (r.size : Int) := by omega
      have hr : strN r = [] := List.eq_nil_of_length_eq_zero (by rw [strN_length]; exact h0)
      have HF : Hid (Fxd d (strN s) (ps.map strN)) := by have := HPRE.out [] (by rw [hr]; exact .nil); rwa [List.append_nil] at this
      clear HPRE hr h0
      go_wp2_with fail
      go_ret2
      exact .inl ⟨ps, oa, oc, d, rfl, HF.out, by omega, by omega, by omega, rfl, HOWN.out, HBR.out⟩
     ·
      have f3 : (0 : Int) < (r.size : Int) := by omega
      have hm : min (d : Int) (r.size : Int) = ((min d r.size : Nat) : Int) := by omega
      obtain ⟨k, hk⟩ : ∃ k, k = min d r.size := ⟨_, rfl⟩
      rw [← hk] at hm
      have k0 : (0 : Int) ≤ (k : Int) := Int.natCast_nonneg _
      have k1 : (k : Int) ≤ (r.size : Int) := by omega
      have kk : 1 ≤ k := by omega
      have HT : Hid (∀ qs, Fxd d (strN (r.extract k r.size)) qs → Fxd d (strN s) ((ps ++ [r.extract 0 k]).map strN ++ qs)) := fun qs h => by
       rw [strN_drop] at h
       rw [List.map_append, List.append_assoc, List.map_cons, List.map_nil, strN_take]
       refine HPRE.out _ ?_
       have hk2 : k = min d (strN r).length := by rw [strN_length]; exact hk
       rw [hk2] at h ⊢
       exact Fxd.cons (by rw [strN_length]; exact h0) h
      have D1 := Lib.hid (cells_new_at wr wr.heap.size rfl #[.string (r.extract 0 k)] 9 (sC (r.extract 0 k)) rfl)
      have D2 : Hid (∀ u ∈ sC (r.extract 0 k), u.oneCell' = true) := fun u hu => sC_one _ u hu
      have D3 : Hid (ps.length + 1 ≤ maxLen) := by show _ ≤ _; unfold maxLen; omega
      have D4 : Hid ((ps.length + 1) * 16 ≤ 140737488355328) := by show _ ≤ _; omega
      have D5 : Hid (w.heap.size ≤ (wr.alloc (.cells #[.string (r.extract 0 k)] 9)).heap.size) := by show _ ≤ _; simp; omega
      have D7 : (r.extract k r.size).size = r.size - k := by rw [ByteArray.size_extract]; omega
      clear hk h0 HPRE
      go_wp2_with (at_builtin; refine wpList_append_own _ rfl _ _ 49 rfl w.heap.size 9 i0 (.string ⟨#[]⟩) 1 16 Tryz.underlying49 hi0 hz0 hz1 hz2 rfl (by decide) _ _ _ rfl (HOWN.out.alloc _) ⟨wr.heap.size, 0, none⟩ 1 1 (sC (r.extract 0 k)) rfl rfl D1.out D2.out D3.out D4.out D5.out ?_)
      intro v' w2 hown' hgrow _
      have BW := Lib.hid (below_own ((HBR.out.alloc hw1 (.cells #[.string (r.extract 0 k)] 9))) hgrow (by simp; omega) (HOWN.out.alloc _) (Nat.le_refl _))
      obtain ⟨oa2, oc2, rfl⟩ := own_form' hown'
      have OW : Hid (w2.ownsRow w.heap.size 9 1 (.slice oa2 (ps ++ [r.extract 0 k]).length oc2) (ps ++ [r.extract 0 k]).length ((ps ++ [r.extract 0 k]).flatMap sC)) := by
       show w2.ownsRow _ _ _ _ _ _
       rw [List.length_append, sCs_snoc]
       exact hown'
      clear hown' hgrow
      go_wp2_with fail
      go_roundw
      case rel => exact ⟨ps ++ [r.extract 0 k], r.extract k r.size, oa2, oc2, rfl, by rw [List.length_append]; rfl, HT.out, by rw [List.length_append, List.length_singleton]; omega, OW.out, BW.out⟩
      case measure => simp only [szV]; omega
end Go.Proofs.YtbfoonfbhebhfaaGreatDoor
namespace Go.Proofs.YtbfoonfbhebhfaaGreatDoor
open Go.RowKit Plain
def CutOk (mn mx b : Int) : Prop := 16 ≤ mn ∧ mn ≤ mx ∧ mx ≤ 1024 ∧ 1 ≤ b ∧ b ≤ 12
def ruleI (mn mx b : Int) : Rule := cutRule mn.toNat mx.toNat b.toNat
theorem ruleI_ok {mn mx b : Int} (h : CutOk mn mx b) : (ruleI mn mx b).ok := by
 obtain ⟨h1, h2, _⟩ := h
 show 1 ≤ mn.toNat ∧ mn.toNat ≤ mx.toNat
 omega
def FeedEnd (w0 : World) (mn mx b : Int) (s : ByteArray) (e : Ending) (w : World) : Prop :=
 (∃ (ps : List ByteArray) (r : ByteArray) (a : Option Addr) (c : Nat), CutOk mn mx b ∧ s.size ≤ 4096 ∧ (ruleI mn mx b).Pcs (strN s) (ps.map strN) (strN r) ∧ ps.length + r.size ≤ s.size ∧ e = .returned (.tuple #[.slice a ps.length c, .string r, .int .i64 0]) ∧ w.ownsRow w0.heap.size 9 1 (.slice a ps.length c) ps.length (ps.flatMap sC) ∧ Below w0.heap.size w0 w) ∨
 (∃ c : Nat, c ≠ 0 ∧ (¬ CutOk mn mx b ∨ 4096 < s.size) ∧ e = .returned (.tuple #[.slice none 0 0, .string ⟨#[]⟩, .int .i64 (c : Int)]) ∧ Below w0.heap.size w0 w)
theorem own_lower {w : World} {base base' : Nat} {e : TypeId} {k : Nat} {v : Value} {n : Nat} {xs : List Value} (h : w.ownsRow base e k v n xs) (hb : base' ≤ base) : w.ownsRow base' e k v n xs := by
 refine ⟨h.1, ?_⟩
 rcases h.2 with h | ⟨g, cap, cur, hv, hB, hg⟩
 ·
  exact .inl h
 ·
  exact .inr ⟨g, cap, cur, hv, by omega, hg⟩
set_option maxRecDepth 100000 in
set_option maxHeartbeats 2000000 in
theorem feed_any (mn mx b : Int) (s t : ByteArray) (w : World) (hs : s.size + t.size ≤ 9223372036854775807) :
  Calls Tryz.prog 123 #[.agg #[.int .i64 mn, .int .i64 mx, .int .i64 b], .string s, .string t] w (FeedEnd w mn mx b (s ++ t)) := by
 have hst : (s ++ t).size = s.size + t.size := by simp
 have HST := Lib.hid hst
 have HB0 := Lib.hid ((Below.refl w.heap.size w).alloc (Nat.le_refl _) (.cells #[.int .i64 mn, .int .i64 mx, .int .i64 b] 23))
 have HC0 : Hid ((w.alloc (.cells #[.int .i64 mn, .int .i64 mx, .int .i64 b] 23)).heap[w.heap.size]? = some (.cells #[.int .i64 mn, .int .i64 mx, .int .i64 b] 23 (0, 0))) := heap_alloc_new w _
 have HCK := Lib.hid fun u => ccheck_any mn mx b u
 have hs63 : (s.size : Int) + (t.size : Int) ≤ 9223372036854775807 := by omega
 clear hst
 go_enter Tryz.func123, Tryz.ntmps123
 go_wp2_with fail
 refine (HCK.out _).mono ?_
 rintro e w1 ⟨⟨rfl, hok⟩ | ⟨rfl, hbad⟩, hb1⟩
 ·
  have HB1 := Lib.hid (Below.step HB0.out hb1)
  have hc := (hb1.block _ (lt_of_block HC0.out)).trans HC0.out
  have c0 := cell_of_row w1 w.heap.size 0 _ _ _ hc
  have c1 := cell_of_row w1 w.heap.size 1 _ _ _ hc
  have c2 := cell_of_row w1 w.heap.size 2 _ _ _ hc
  simp only [List.getElem?_toArray, List.getElem?_cons_zero, List.getElem?_cons_succ] at c0 c1 c2
  have HOK : Hid (CutOk mn mx b) := hok
  clear hb1 hc HC0
  by_cases p : 4096 < s.size + t.size
  ·
   have f1 : (4096 : Int) < (s.size : Int) + (t.size : Int) := by omega
   go_wp2_with fail
   go_ret3
   exact .inr ⟨2, by decide, .inr (by rw [HST.out]; exact p), rfl, HB1.out⟩
  ·
   have f1 : ¬ (4096 : Int) < (s.size : Int) + (t.size : Int) := by omega
   have HP : Hid (∀ u, Calls Tryz.prog 138 #[.agg #[.int .i64 mn, .int .i64 mx, .int .i64 b], .string (s ++ t)] u (PcEnd u (ruleI mn mx b) (s ++ t))) := fun u => by
    have := pieces_any mn.toNat mx.toNat b.toNat (s ++ t) u (by omega) (by rw [HST.out]; omega)
    unfold cutV at this
    rwa [show ((mn.toNat : Nat) : Int) = mn by omega, show ((mx.toNat : Nat) : Int) = mx by omega, show ((b.toNat : Nat) : Int) = b by omega] at this
   clear hok
   go_wp2_with fail
   refine (HP.out _).mono ?_
   rintro e w2 ⟨ps, r, a, c, hpcs, hl, rfl, hown, hb2⟩
   have HB2 := Lib.hid (Below.step HB1.out hb2)
   have HO := Lib.hid (own_lower hown HB1.out.size)
   have HPC := Lib.hid hpcs
   clear hpcs hown hb2
   go_wp2_with fail
   go_ret3
   exact .inl ⟨ps, r, a, c, HOK.out, by rw [HST.out]; omega, HPC.out, hl, rfl, HO.out, HB2.out⟩
 ·
  have HB1 := Lib.hid (Below.step HB0.out hb1)
  have HBAD := Lib.hid hbad
  clear hb1 hbad HC0
  go_wp2_with fail
  go_ret3
  exact .inr ⟨1, by decide, .inl HBAD.out, rfl, HB1.out⟩
def CutEnd (w0 : World) (mn mx b : Int) (s : ByteArray) (e : Ending) (w : World) : Prop :=
 (∃ (cs : List ByteArray) (a : Option Addr) (c : Nat), CutOk mn mx b ∧ s.size ≤ 4096 ∧ (ruleI mn mx b).Cuts (strN s) (cs.map strN) ∧ cs.length ≤ s.size ∧ e = .returned (.tuple #[.slice a cs.length c, .int .i64 0]) ∧ w.ownsRow w0.heap.size 9 1 (.slice a cs.length c) cs.length (cs.flatMap sC) ∧ Below w0.heap.size w0 w) ∨
 (∃ c : Nat, c ≠ 0 ∧ (¬ CutOk mn mx b ∨ 4096 < s.size) ∧ e = .returned (.tuple #[.slice none 0 0, .int .i64 (c : Int)]) ∧ Below w0.heap.size w0 w)
theorem empty_append (s : ByteArray) : (⟨#[]⟩ : ByteArray) ++ s = s := by
 show ByteArray.empty ++ s = s
 simp
theorem str_nil_of {s : ByteArray} (h : s.size = 0) : s = ⟨#[]⟩ := by
 have h2 : strN s = [] := List.eq_nil_of_length_eq_zero (by rw [strN_length]; exact h)
 rw [← strOf_strN s, h2]
 rfl
theorem isEmpty_false {s : ByteArray} (h : s.size ≠ 0) : s.toList.isEmpty = false := by
 rw [Lib.toList_data]
 cases hd : s.data.toList with
 | nil =>
      exfalso; apply h; have : s.data.size = 0 := by rw [← Array.length_toList, hd]; rfl
      exact this
 | cons a l => rfl
set_option maxRecDepth 100000 in
set_option maxHeartbeats 2000000 in
theorem cut_any (mn mx b : Int) (s : ByteArray) (w : World) (hs : s.size ≤ 9223372036854775807) :
  Calls Tryz.prog 105 #[.agg #[.int .i64 mn, .int .i64 mx, .int .i64 b], .string s] w (CutEnd w mn mx b s) := by
 obtain ⟨i0, hi0, hz0, hz1, hz2⟩ := info_parts info_str
 have HB0 := Lib.hid ((Below.refl w.heap.size w).alloc (Nat.le_refl _) (.cells #[.int .i64 mn, .int .i64 mx, .int .i64 b] 23))
 have HF := Lib.hid fun u => feed_any mn mx b ⟨#[]⟩ s u (by show 0 + s.size ≤ _; omega)
 rw [empty_append] at HF
 go_enter Tryz.func105, Tryz.ntmps105
 go_wp2_with fail
 refine (HF.out _).mono ?_
 rintro e w1 (⟨ps, r, a, c, hok, h4, hpcs, hl, rfl, hown, hb1⟩ | ⟨c, hc0, hbad, rfl, hb1⟩)
 ·
  have HB1 := Lib.hid (Below.step HB0.out hb1)
  have HO := Lib.hid (own_lower hown HB0.out.size)
  have HPC := Lib.hid hpcs
  have HOK := Lib.hid hok
  have hw1 := HB1.out.size
  clear hpcs hown hb1 hok
  by_cases h0 : r.size = 0
  ·
   have hr := str_nil_of h0
   subst hr
   have HCU : Hid ((ruleI mn mx b).Cuts (strN s) (ps.map strN)) := ⟨_, _, HPC.out, by unfold cutOf; rw [if_pos (show strN ⟨#[]⟩ = [] from rfl)]⟩
   clear h0
   go_wp2_with fail
   go_ret2
   exact .inl ⟨ps, a, c, HOK.out, h4, HCU.out, by omega, rfl, HO.out, HB1.out⟩
  ·
   have f1 := isEmpty_false h0
   have HCU : Hid ((ruleI mn mx b).Cuts (strN s) ((ps ++ [r]).map strN)) := ⟨_, _, HPC.out, by
    unfold cutOf
    rw [if_neg (fun e => h0 (by rw [← strN_length, e]; rfl)), List.map_append]; rfl⟩
   have hr1 : 1 ≤ r.size := by omega
   have D1 := Lib.hid (cells_new_at w1 w1.heap.size rfl #[.string r] 9 (sC r) rfl)
   have D2 : Hid (∀ u ∈ sC r, u.oneCell' = true) := fun u hu => sC_one _ u hu
   have D3 : Hid (ps.length + 1 ≤ maxLen) := by show _ ≤ _; unfold maxLen; omega
   have D4 : Hid ((ps.length + 1) * 16 ≤ 140737488355328) := by show _ ≤ _; omega
   have D5 : Hid (w.heap.size ≤ (w1.alloc (.cells #[.string r] 9)).heap.size) := by show _ ≤ _; simp; omega
   clear h0
   go_wp2_with (at_builtin; refine wpList_append_own _ rfl _ _ 49 rfl w.heap.size 9 i0 (.string ⟨#[]⟩) 1 16 Tryz.underlying49 hi0 hz0 hz1 hz2 rfl (by decide) _ _ _ rfl (HO.out.alloc _) ⟨w1.heap.size, 0, none⟩ 1 1 (sC r) rfl rfl D1.out D2.out D3.out D4.out D5.out ?_)
   intro v' w2 hown' hgrow _
   have BW := Lib.hid (below_own ((HB1.out.alloc hw1 (.cells #[.string r] 9))) hgrow (by simp; omega) (HO.out.alloc _) (Nat.le_refl _))
   obtain ⟨oa2, oc2, rfl⟩ := own_form' hown'
   have OW : Hid (w2.ownsRow w.heap.size 9 1 (.slice oa2 (ps ++ [r]).length oc2) (ps ++ [r]).length ((ps ++ [r]).flatMap sC)) := by
    show w2.ownsRow _ _ _ _ _ _
    rw [List.length_append, sCs_snoc]
    exact hown'
   clear hown' hgrow
   go_wp2_with fail
   go_ret2
   exact .inl ⟨ps ++ [r], oa2, oc2, HOK.out, h4, HCU.out, by rw [List.length_append, List.length_singleton]; omega, by rw [List.length_append]; rfl, OW.out, BW.out⟩
 ·
  have HB1 := Lib.hid (Below.step HB0.out hb1)
  have HBAD := Lib.hid hbad
  have f0 : ((c : Int) == 0) = false := beq_eq_false_iff_ne.2 (by omega)
  clear hb1 hbad
  go_wp2_with fail
  go_ret2
  exact .inr ⟨c, hc0, HBAD.out, rfl, HB1.out⟩
end Go.Proofs.YtbfoonfbhebhfaaGreatDoor
