/- Joined: TreeNode0, PlEq, OpenArr, PlOpen. -/
import Derived.Test.YtpfmfigommmjiaaDoorToAN
import Derived.Test.YtpfmfigommmjiaaDoorToAO
import Derived.Test.YtpfmfigommmjiaaDoorToAB
import Derived.ChangeKeysEq
import Derived.Laws.StructEq
import Derived.Test.YtpfmfigommmjiaaDoorToAA
import Derived.WalkKit
import Derived.ChangeOld
import Derived.ShutString
import Derived.ProofKit
import Derived.OpenShut
import Derived.Deep.Slices
import Derived.ChangeArms
namespace Go.Proofs.YtpfmfigommmjiaaDoor
open Go.RowKit Plain
theorem nd_info : (Tryd.prog.info? 40).map (·.size) = some 7 := by kernel_rfl
theorem mnC_one (m : MN) : ∀ v ∈ mnC m, v.oneCell' = true := by
  intro v hv
  simp only [mnC, List.mem_cons, List.not_mem_nil, or_false] at hv
  rcases hv with rfl | rfl | rfl | rfl | rfl | rfl | rfl <;> rfl
theorem nd_one (m : MN) : (mnC m).toArray.all (·.oneCell') = true := all_oneCell_toArray (mnC_one m)
/-- on the way: the reader at R, the result's row at w.heap.size -/
structure St1 (w : World) (R : Nat) (l : ByteArray) (e : Nat) (u : World) : Prop where
  rst : RSt u R l e
  bx : BX R w u
  row : u.heap[w.heap.size]? = some (.cells #[.string ⟨#[]⟩, .int .i64 0, .int .i64 0, .int .i64 0, .int .i64 0, .slice none 0 0, .string ⟨#[]⟩] 40 (0, 0))
theorem St1.lt {w u : World} {R : Nat} {l : ByteArray} {e : Nat} (h : St1 w R l e u) (hR : R < w.heap.size) : R < u.heap.size := Nat.lt_of_lt_of_le hR h.bx.1.size
theorem St1.call {w u u' : World} {R : Nat} {l l' : ByteArray} {e e' : Nat} (h : St1 w R l e u) (hR : R < w.heap.size) (hr : RSt u' R l' e') (hb : BX R u u') : St1 w R l' e' u' := ⟨hr, h.bx.trans hb, hb.block (by omega) h.row⟩
/-- besides: the node's row at N -/
structure St2 (w : World) (R : Nat) (l : ByteArray) (e : Nat) (m : MN) (N : Nat) (u : World) : Prop where
  rst : RSt u R l e
  bx : BX R w u
  row : u.heap[w.heap.size]? = some (.cells #[.string ⟨#[]⟩, .int .i64 0, .int .i64 0, .int .i64 0, .int .i64 0, .slice none 0 0, .string ⟨#[]⟩] 40 (0, 0))
  hN : w.heap.size < N
  node : u.heap[N]? = some (.cells (mnC m).toArray 40 (0, 0))
def zMN : MN := (⟨#[]⟩, 0, 0, 0, 0, (none, 0, []), ⟨#[]⟩)
theorem St2.lt {w u : World} {R N : Nat} {l : ByteArray} {e : Nat} {m : MN} (h : St2 w R l e m N u) (hR : R < w.heap.size) : R < u.heap.size := Nat.lt_of_lt_of_le hR h.bx.1.size
theorem St2.call {w u u' : World} {R N : Nat} {l l' : ByteArray} {e e' : Nat} {m : MN} (h : St2 w R l e m N u) (hR : R < w.heap.size) (hr : RSt u' R l' e') (hb : BX R u u') : St2 w R l' e' m N u' := ⟨hr, h.bx.trans hb, hb.block (by omega) h.row, h.hN, hb.block (by have := h.hN; omega) h.node⟩
theorem St1.alloc {w u : World} {R : Nat} {l : ByteArray} {e : Nat} (h : St1 w R l e u) : St2 w R l e zMN u.heap.size (u.alloc (.cells #[.string ⟨#[]⟩, .int .i64 0, .int .i64 0, .int .i64 0, .int .i64 0, .slice none 0 0, .string ⟨#[]⟩] 40)) :=
  ⟨h.rst.below ((Below.refl _ _).alloc (Nat.le_refl _) _), h.bx.alloc _, (Below.heap_alloc u _ _ (lt_of_block h.row)).trans h.row, lt_of_block h.row, heap_alloc_new u _⟩
theorem St2.there {w u : World} {R N : Nat} {l : ByteArray} {e : Nat} {m : MN} (h : St2 w R l e m N u) : u.there N 0 7 := there_row h.node
theorem St2.other {w u : World} {R N : Nat} {l : ByteArray} {e : Nat} {m : MN} (_ : St2 w R l e m N u) {g : Nat} (hg : g ≠ N) (vs : List Value) : (u.setCells N 0 vs).heap[g]? = u.heap[g]? := heap_setCells_other _ _ hg _ _ _
theorem bx_setCells {R : Nat} {a b : World} {N : Nat} (h : BX R a b) (hN : a.heap.size ≤ N) (vs : List Value) : BX R a (b.setCells N 0 vs) := by
  have h1 := below_setCells (Nat.zero_le N) vs 0 h.1
  exact ⟨h1, fun k hk hne => (heap_setCells_other _ _ (by omega) _ _ _).trans (h.2 k hk hne)⟩
theorem St2.store {w u : World} {R N : Nat} {l : ByteArray} {e : Nat} {m : MN} (h : St2 w R l e m N u) (m' : MN) (hR : R < w.heap.size) : St2 w R l e m' N (u.setCells N 0 (mnC m').toArray.toList) := by
  have hN := h.hN
  refine ⟨(heap_setCells_other _ _ (by omega) _ _ _).trans h.rst, bx_setCells h.bx (by omega) _, (heap_setCells_other _ _ (by omega) _ _ _).trans h.row, hN, setCells_full h.node _ rfl⟩
theorem range_bx {R : Nat} {u u' : World} {g : Nat} {cs : List Value} (hb : BX R u u') (hg : g < u.heap.size) (hne : g ≠ R) (h : u.rangeAt g 0 cs) : u'.rangeAt g 0 cs := range_other h (hb.2 g hg hne)
/-- one reading -/
def PF {α : Type} (p : List Nat → Option (α × List Nat)) (z : α) (l : ByteArray) (e : Nat) (a : α) (l' : ByteArray) (e' : Nat) : Prop := (e = 0 ∧ p (strN l) = some (a, strN l') ∧ e' = 0) ∨ ((e ≠ 0 ∨ p (strN l) = none) ∧ a = z ∧ e' ≠ 0)
/-- so many bytes -/
def BF (l : ByteArray) (e n : Nat) (x : List Nat) (l' : ByteArray) (e' : Nat) : Prop := (e = 0 ∧ strN l = x ++ strN l' ∧ e' = 0) ∨ ((e ≠ 0 ∨ l.size < n) ∧ e' ≠ 0)
theorem own_setCellsB {w : World} {base : Nat} {e : TypeId} {k : Nat} {v : Value} {n : Nat} {xs : List Value} (h : w.ownsRow base e k v n xs) {B : Nat} (hB : v.ownBlock ≠ some B) (vs : List Value) : (w.setCells B 0 vs).ownsRow base e k v n xs := by
  refine ⟨h.1, ?_⟩
  rcases h.2 with hv | ⟨g, cap, cur, hv, h1, h2, h3⟩
  · exact .inl hv
  · exact .inr ⟨g, cap, cur, hv, h1, (heap_setCells_other _ _ (fun e => hB (by rw [hv, ← e]; rfl)) _ _ _).trans h2, h3⟩
/-- what holds behind the first five fields -/
def Mid (w : World) (R : Nat) (l : ByteArray) (e : Nat) (a : Act) (u : World) : Prop :=
  ∃ (N : Nat) (x1 : List Nat) (c2 n3 : Nat) (t4 : Int) (s5 g cp : Nat) (l1 l2 l3 l4 l5 : ByteArray) (e1 e2 e3 e4 e5 : Nat), a = ⟨#[.pointer (some ⟨R, 0, none⟩), undef, .pointer (some ⟨w.heap.size, 0, none⟩), .pointer (some ⟨N, 0, none⟩), .pointer (some ⟨R, 0, none⟩), .string (strOf x1), .pointer (some ⟨R, 0, none⟩), .slice (some ⟨g, 0, none⟩) 1 cp, .pointer (some ⟨g, 0, none⟩), .int .u8 (c2 : Int), .int .i64 (c2 : Int), .pointer (some ⟨R, 0, none⟩), .int .i64 (n3 : Int), .pointer (some ⟨R, 0, none⟩), .int .i64 t4, .pointer (some ⟨R, 0, none⟩), .int .i64 (s5 : Int), .agg #[.string (strOf x1), .int .i64 (c2 : Int), .int .i64 (n3 : Int), .int .i64 t4, .int .i64 (s5 : Int), .slice none 0 0, .string ⟨#[]⟩], undef, undef, undef, undef, undef, undef, undef, undef, undef, undef, undef, undef, undef, undef, undef, undef, undef, undef], []⟩ ∧
    St2 w R l5 e5 (strOf x1, (c2 : Int), (n3 : Int), t4, (s5 : Int), (none, 0, []), ⟨#[]⟩) N u ∧ l5.size ≤ l.size ∧ PF getT [] l e x1 l1 e1 ∧ BF l1 e1 1 [c2] l2 e2 ∧ PF (pNum 511) 0 l2 e2 n3 l3 e3 ∧ PF pInt 0 l3 e3 t4 l4 e4 ∧ PF (pNum 4096) 0 l4 e4 s5 l5 e5
theorem bx_setCell {R : Nat} {a b : World} {N : Nat} (h : BX R a b) (hN : a.heap.size ≤ N) (i : Nat) (v : Value) : BX R a (b.setCell ⟨N, i, none⟩ v) :=
  ⟨h.1.setCell (Nat.zero_le _) v, fun k hk hne => (Below.heap_setCell _ _ _ _ (by show k ≠ N; omega)).trans (h.2 k hk hne)⟩
theorem own_ne {w : World} {base : Nat} {t t' : TypeId} {k : Nat} {v : Value} {n : Nat} {xs : List Value} {B : Nat} {C : Array Value} {fr : Nat × Nat} (h : w.ownsRow base t k v n xs) (hB : w.heap[B]? = some (.cells C t' fr)) (ht : t ≠ t') : v.ownBlock ≠ some B := by
  rcases h.2 with ⟨hv, _⟩ | ⟨g, cap, cur, hv, _, hg, _⟩
  · rw [hv]; intro e; cases e
  · rw [hv]
    intro e
    have e2 : g = B := by injection e
    rw [e2, hB] at hg
    injection hg with hg
    injection hg with _ h2 _
    exact ht h2.symm
theorem St2.set5 {w u : World} {R N : Nat} {l : ByteArray} {e : Nat} {n lk : ByteArray} {k md tm sz : Int} {pa pa' : Option Addr} {pc pc' : Nat} {ps ps' : List ID8} (h : St2 w R l e (n, k, md, tm, sz, (pa, pc, ps), lk) N u) (hR : R < w.heap.size) : St2 w R l e (n, k, md, tm, sz, (pa', pc', ps'), lk) N (u.setCell ⟨N, 5, none⟩ (.slice pa' ps'.length pc')) := by
  have hN := h.hN
  exact ⟨(Below.heap_setCell _ _ _ _ (by show R ≠ N; omega)).trans h.rst, bx_setCell h.bx (by omega) _ _, (Below.heap_setCell _ _ _ _ (by show w.heap.size ≠ N; omega)).trans h.row, hN, rst_set h.node 5 _⟩
theorem St2.set6 {w u : World} {R N : Nat} {l : ByteArray} {e : Nat} {n lk lk' : ByteArray} {k md tm sz : Int} {pa : Option Addr} {pc : Nat} {ps : List ID8} (h : St2 w R l e (n, k, md, tm, sz, (pa, pc, ps), lk) N u) (hR : R < w.heap.size) : St2 w R l e (n, k, md, tm, sz, (pa, pc, ps), lk') N (u.setCell ⟨N, 6, none⟩ (.string lk')) := by
  have hN := h.hN
  exact ⟨(Below.heap_setCell _ _ _ _ (by show R ≠ N; omega)).trans h.rst, bx_setCell h.bx (by omega) _ _, (Below.heap_setCell _ _ _ _ (by show w.heap.size ≠ N; omega)).trans h.row, hN, rst_set h.node 6 _⟩
theorem St2.grown {w u u' : World} {R N : Nat} {l : ByteArray} {e : Nat} {m : MN} {ob : Option Nat} (h : St2 w R l e m N u) (hg : u.grownBy u' ob) (h1 : ob ≠ some R) (h2 : ob ≠ some N) (h3 : ob ≠ some w.heap.size) (hb : ∀ k, ob = some k → w.heap.size ≤ k) : St2 w R l e m N u' := by
  have hsz := h.bx.1.size
  refine ⟨(hg.block R (lt_of_block h.rst) (fun e => h1 e.symm)).trans h.rst, ⟨⟨hg.os.trans h.bx.1.os, hg.tape.trans h.bx.1.tape, hg.output.trans h.bx.1.output, Nat.le_trans hsz hg.size, fun k hk => absurd hk (Nat.not_lt_zero _)⟩, fun k hk hne => (hg.block k (by omega) (fun e => ?_)).trans (h.bx.2 k hk hne)⟩, (hg.block _ (lt_of_block h.row) (fun e => h3 e.symm)).trans h.row, h.hN, (hg.block N (lt_of_block h.node) (fun e => h2 e.symm)).trans h.node⟩
  have := hb k e.symm
  omega
theorem St2.alloc {w u : World} {R N : Nat} {l : ByteArray} {e : Nat} {m : MN} (h : St2 w R l e m N u) (o : Obj) : St2 w R l e m N (u.alloc o) :=
  ⟨h.rst.below ((Below.refl _ _).alloc (Nat.le_refl _) _), h.bx.alloc _, (Below.heap_alloc u _ _ (lt_of_block h.row)).trans h.row, h.hN, (Below.heap_alloc u _ _ (lt_of_block h.node)).trans h.node⟩
theorem info_id : ∃ i, Tryd.prog.info? 43 = some i ∧ i.zero = some (.agg (idC (0, 0, 0, 0, 0, 0, 0, 0)).toArray) ∧ i.size = 8 ∧ i.bytes = 8 := info_parts (by kernel_rfl)
theorem getT_lt {s t r : List Nat} (hs : ∀ c ∈ s, c < 256) (h : getT s = some (t, r)) : ∀ c ∈ t, c < 256 := by
  obtain ⟨_, e⟩ := getT_back h
  have key : ∀ t : List Nat, (∀ c ∈ esc t, c < 256) → ∀ c ∈ t, c < 256 := by
    intro t
    induction t with
    | nil => intro _ c hc; cases hc
    | cons a t ih =>
      intro h c hc
      rcases List.mem_cons.1 hc with rfl | hc
      · cases c with
        | zero => decide
        | succ c => exact h _ (by simp [esc])
      · exact ih (fun d hd => h d (by cases a <;> simp [esc, hd])) c hc
  exact key t (fun c hc => hs c (by rw [e, putT]; simp [hc]))
/-- names of eight bytes each, one behind the other -/
def IDS (l6 : ByteArray) (e6 : Nat) (n : Nat) (ps : List ID8) (lj : ByteArray) (ej : Nat) : Prop := (e6 = 0 ∧ ej = 0 ∧ strN l6 = (ps.map idL).flatten ++ strN lj) ∨ (ej ≠ 0 ∧ (e6 ≠ 0 ∨ l6.size < 8 * n))
theorem ids_flat_length (ps : List ID8) : ((ps.map idL).flatten).length = 8 * ps.length := by
  induction ps with
  | nil => rfl
  | cons p ps ih => rw [List.map_cons, List.flatten_cons, List.length_append, ih, List.length_cons]; simp [idL]; omega
theorem IDS.next {l6 lj l' : ByteArray} {e6 ej e' n : Nat} {ps : List ID8} {x : ID8} (h : IDS l6 e6 n ps lj ej) (hn : ps.length < n) (hb : BF lj ej 8 (idL x) l' e') : IDS l6 e6 n (ps ++ [x]) l' e' := by
  rcases h with ⟨h1, h2, h3⟩ | ⟨h1, h2⟩
  · rcases hb with ⟨_, b2, b3⟩ | ⟨b1, b2⟩
    · exact .inl ⟨h1, b3, by rw [h3, b2]; simp⟩
    · refine .inr ⟨b2, .inr ?_⟩
      rcases b1 with b1 | b1
      · exact absurd h2 b1
      · have := congrArg List.length h3
        rw [List.length_append, ids_flat_length, strN_length, strN_length] at this
        omega
  · rcases hb with ⟨b1, _, _⟩ | ⟨_, b2⟩
    · exact absurd b1 h1
    · exact .inr ⟨b2, h2⟩
/-- the readings of a node's parts are the reading of a node -/
theorem node_fin {l l1 l2 l3 l4 l5 l6 l7 l8 : ByteArray} {e e1 e2 e3 e4 e5 e6 e7 e8 : Nat} {x1 x8 : List Nat} {c2 n3 s5 n6 : Nat} {t4 : Int} {ps : List ID8} {pa : Option Addr} {pc : Nat}
    (h1 : PF getT [] l e x1 l1 e1) (h2 : BF l1 e1 1 [c2] l2 e2) (h3 : PF (pNum 511) 0 l2 e2 n3 l3 e3) (h4 : PF pInt 0 l3 e3 t4 l4 e4) (h5 : PF (pNum 4096) 0 l4 e4 s5 l5 e5) (h6 : PF (pNum 300) 0 l5 e5 n6 l6 e6) (h7 : IDS l6 e6 n6 ps l7 e7) (hps : ps.length = n6) (h8 : PF getT [] l7 e7 x8 l8 e8) :
    (e = 0 ∧ pNode (strN l) = some (ndOf (strOf x1, (c2 : Int), (n3 : Int), t4, (s5 : Int), (pa, pc, ps), strOf x8), strN l8) ∧ e8 = 0) ∨ ((e ≠ 0 ∨ pNode (strN l) = none) ∧ e8 ≠ 0) := by
  have bad : ∀ {α : Type} {p : List Nat → Option (α × List Nat)} {z : α} {l : ByteArray} {e : Nat} {a : α} {l' : ByteArray} {e' : Nat}, PF p z l e a l' e' → e ≠ 0 → e' ≠ 0 := fun h he => by
    rcases h with ⟨h, _⟩ | ⟨_, _, h⟩
    · exact absurd h he
    · exact h
  have badB : ∀ {l : ByteArray} {e n : Nat} {x : List Nat} {l' : ByteArray} {e' : Nat}, BF l e n x l' e' → e ≠ 0 → e' ≠ 0 := fun h he => by
    rcases h with ⟨h, _⟩ | ⟨_, h⟩
    · exact absurd h he
    · exact h
  have badI : e6 ≠ 0 → e7 ≠ 0 := fun he => by
    rcases h7 with ⟨h, _⟩ | ⟨h, _⟩
    · exact absurd h he
    · exact h
  have f6 : e6 ≠ 0 → e8 ≠ 0 := fun h => bad h8 (badI h)
  have f5 : e5 ≠ 0 → e8 ≠ 0 := fun h => f6 (bad h6 h)
  have f4 : e4 ≠ 0 → e8 ≠ 0 := fun h => f5 (bad h5 h)
  have f3 : e3 ≠ 0 → e8 ≠ 0 := fun h => f4 (bad h4 h)
  have f2 : e2 ≠ 0 → e8 ≠ 0 := fun h => f3 (bad h3 h)
  have f1 : e1 ≠ 0 → e8 ≠ 0 := fun h => f2 (badB h2 h)
  unfold pNode
  rcases h1 with ⟨z0, p1, z1⟩ | ⟨b1, _, n1⟩
  · have x1l := getT_lt (strN_lt l) p1
    rw [p1]
    simp only
    rcases h2 with ⟨_, p2, z2⟩ | ⟨b2, n2⟩
    · rw [show strN l1 = c2 :: strN l2 from p2]
      simp only
      rcases h3 with ⟨_, p3, z3⟩ | ⟨b3, _, n3'⟩
      · rw [p3]
        simp only
        rcases h4 with ⟨_, p4, z4⟩ | ⟨b4, _, n4⟩
        · rw [p4]
          simp only
          rcases h5 with ⟨_, p5, z5⟩ | ⟨b5, _, n5⟩
          · rw [p5]
            simp only
            rcases h6 with ⟨_, p6, z6⟩ | ⟨b6, _, n6'⟩
            · rw [p6]
              simp only
              have hlen : (ps.map idL).length = n6 := by rw [List.length_map, hps]
              rcases h7 with ⟨_, z7, p7⟩ | ⟨n7, b7⟩
              · have hpi : pIds n6 (strN l6) = some (ps.map idL, strN l7) := by
                  have hfl := ids_flat_length ps
                  unfold pIds
                  rw [if_neg (by rw [p7, List.length_append]; omega), p7, ← hlen, ids_of _ _ (fun p hp => by
                    simp only [List.mem_map] at hp
                    obtain ⟨q, _, rfl⟩ := hp
                    rfl), hlen, ← hps, ← hfl, List.drop_left]
                rw [hpi]
                simp only
                rcases h8 with ⟨_, p8, z8⟩ | ⟨b8, _, n8⟩
                · have x8l := getT_lt (strN_lt l7) p8
                  rw [p8]
                  simp only
                  refine .inl ⟨z0, ?_, z8⟩
                  simp only [ndOf, strN_strOf x1 x1l, strN_strOf x8 x8l]
                · rcases b8 with b8 | b8
                  · exact absurd z7 b8
                  · rw [b8]; exact .inr ⟨.inr rfl, n8⟩
              · have hpi : pIds n6 (strN l6) = none := by
                  rcases b7 with b7 | b7
                  · exact absurd z6 b7
                  · unfold pIds
                    rw [if_pos (by rw [strN_length]; exact b7)]
                rw [hpi]
                exact .inr ⟨.inr rfl, bad h8 n7⟩
            · rcases b6 with b6 | b6
              · exact absurd z5 b6
              · rw [b6]; exact .inr ⟨.inr rfl, f6 n6'⟩
          · rcases b5 with b5 | b5
            · exact absurd z4 b5
            · rw [b5]; exact .inr ⟨.inr rfl, f5 n5⟩
        · rcases b4 with b4 | b4
          · exact absurd z3 b4
          · rw [b4]; exact .inr ⟨.inr rfl, f4 n4⟩
      · rcases b3 with b3 | b3
        · exact absurd z2 b3
        · rw [b3]; exact .inr ⟨.inr rfl, f3 n3'⟩
    · rcases b2 with b2 | b2
      · exact absurd z1 b2
      · have : strN l1 = [] := List.eq_nil_of_length_eq_zero (by rw [strN_length]; omega)
        rw [this]
        exact .inr ⟨.inr rfl, f2 n2⟩
  · rcases b1 with b1 | b1
    · exact .inr ⟨.inl b1, f1 n1⟩
    · rw [b1]; exact .inr ⟨.inr rfl, f1 n1⟩
end Go.Proofs.YtpfmfigommmjiaaDoor
namespace Go.Proofs.YtpfmfigommmjiaaDoor
open Go.RowKit Plain
def bA (l : List Nat) : Array Value := (l.map bV).toArray
theorem ext_getDI {a b : List Nat} (h : a.length = b.length) (h2 : ∀ i, i < a.length → a.getD i 0 = b.getD i 0) : a = b := by
  apply List.ext_getElem h
  intro i h1 h3
  have := h2 i h1
  simpa [List.getD_eq_getElem?_getD, List.getElem?_eq_getElem h1, List.getElem?_eq_getElem h3] using this
theorem bA_get (l : List Nat) (i : Nat) (h : i < l.length) : (bA l)[i]? = some (.int .u8 ((l.getD i 0 : Nat) : Int)) := by
  simp [bA, List.getElem?_map, List.getD_eq_getElem?_getD, List.getElem?_eq_getElem h, bV]
theorem run_isAgg_intI {P : Program} (w : World) {e : TypeId} {k : IntKind} (he : P.underlying e = some (.int k)) : (isAgg e).run P w = .ok false w := by
  unfold isAgg
  rw [Sem.run_bind, run_underlying he w]
  rfl
theorem run_part_byteI {P : Program} (w : World) {e : TypeId} {k : IntKind} (he : P.underlying e = some (.int k)) (l : List Nat) (i : Nat) (h : i < l.length) : (part e (bA l) i).run P w = .ok (.int .u8 ((l.getD i 0 : Nat) : Int)) w := by
  unfold part
  rw [Sem.run_bind, run_isAgg_intI w he]
  simp [Result.andThen, bA_get l i h]
theorem run_eqItems_bytesI {P : Program} (d : Nat) {e : TypeId} {k : IntKind} (he : P.underlying e = some (.int k)) (l m : List Nat) (w : World) : ∀ (is : List Nat), (∀ i ∈ is, i < l.length ∧ i < m.length) →
    (Op.eqItems (d + 1) e 1 (bA l) (bA m) is).run P w = .ok (is.all fun i => l.getD i 0 == m.getD i 0) w
  | [], _ => by simp [Op.eqItems]
  | i :: is, h => by
    have hi := h i (by simp)
    have ih := run_eqItems_bytesI d he l m w is (fun j hj => h j (by simp [hj]))
    simp only [Op.eqItems, Sem.run_bind, Nat.mul_one, List.all_cons, run_part_byteI w he l i hi.1, run_part_byteI w he m i hi.2, Result.andThen_ok, Op.equalIn, run_underlying he, if_true, Sem.run_pure]
    generalize l.getD i 0 = x at *
    generalize m.getD i 0 = y at *
    have hb : (((x : Nat) : Int) == ((y : Nat) : Int)) = (x == y) := by
      rw [Bool.eq_iff_iff, beq_iff_eq, beq_iff_eq]; omega
    rw [hb]
    cases c : (x == y)
    · rfl
    · simp only [Bool.not_true, Bool.false_eq_true, if_false, Bool.true_and]
      exact ih
theorem all_range_eqI (l m : List Nat) (n : Nat) (hl : l.length = n) (hm : m.length = n) : ((List.range n).all fun i => l.getD i 0 == m.getD i 0) = decide (l = m) := by
  rw [Bool.eq_iff_iff]
  simp only [List.all_eq_true, List.mem_range, beq_iff_eq, decide_eq_true_eq]
  constructor
  · intro h
    exact ext_getDI (by rw [hl, hm]) (fun i hi => h i (by omega))
  · rintro rfl i _; rfl
theorem run_equalIn_bytes {P : Program} (d : Nat) (w : World) {t e : TypeId} {n : Nat} {k : IntKind} {inf : TypeInfo} (ht : P.underlying t = some (.array n e)) (he : P.underlying e = some (.int k)) (hi : P.info? e = some inf) (hc : P.cellsOf e = 1)
    (l m : List Nat) (hl : l.length = n) (hm : m.length = n) : (Op.equalIn (d + 2) t (.agg (bA l)) (.agg (bA m))).run P w = .ok (decide (l = m)) w := by
  rw [run_equalIn_array w (d + 1) (bA l) (bA m) ht hi, hc, run_eqItems_bytesI d he l m w _ (fun i h => by rw [List.mem_range] at h; omega), all_range_eqI l m n hl hm]
theorem idL_inj {a b : ID8} : idL a = idL b ↔ a = b := by
  obtain ⟨a0, a1, a2, a3, a4, a5, a6, a7⟩ := a
  obtain ⟨b0, b1, b2, b3, b4, b5, b6, b7⟩ := b
  simp [idL]
def idE (a b : ID8) : Bool := decide (idL a = idL b)
def plE (p q : Pl) : Bool := idE p.1 q.1 && ((p.2.1 == q.2.1) && ((p.2.2.1 == q.2.2.1) && ((p.2.2.2.1 == q.2.2.2.1) && (p.2.2.2.2 == q.2.2.2.2))))
theorem idE_true {a b : ID8} : idE a b = true ↔ a = b := by unfold idE; rw [decide_eq_true_eq, idL_inj]
theorem plE_true {p q : Pl} : plE p q = true ↔ p = q := by
  obtain ⟨i, k, a, b, c⟩ := p
  obtain ⟨j, k', a', b', c'⟩ := q
  simp [plE, idE_true]
set_option maxRecDepth 100000 in
theorem eqIn_id (d : Nat) (a b : ID8) (w : World) : (Op.equalIn (d + 2) 43 (.agg (bA (idL a))) (.agg (bA (idL b)))).run Tryd.prog w = .ok (idE a b) w := by
  have hsome : (Tryd.prog.info? 5).isSome = true := by kernel_rfl
  obtain ⟨inf, hi⟩ := Option.isSome_iff_exists.1 hsome
  rw [run_equalIn_bytes d w Tryd.underlying43 Tryd.underlying5 hi (by kernel_rfl) (idL a) (idL b) rfl rfl]
  rfl
set_option maxRecDepth 100000 in
theorem part_id (p : Pl) (w : World) : (part 43 (plC p).toArray 0).run Tryd.prog w = .ok (.agg (bA (idL p.1))) w := by
  simp [part, isAgg, run_underlying Tryd.underlying43]
  rfl
theorem eqFields_cons {P : Program} {w : World} {d : Nat} {xs ys : Array Value} {f : Field} {fs : List Field} {a b : Value} {r : Bool} (hn : f.name ≠ "_") (h1 : (part f.type xs f.offset).run P w = .ok a w) (h2 : (part f.type ys f.offset).run P w = .ok b w) (h3 : (Op.equalIn d f.type a b).run P w = .ok r w) :
    (Op.eqFields d xs ys (f :: fs)).run P w = if r = true then (Op.eqFields d xs ys fs).run P w else .ok false w := by
  simp only [Op.eqFields, hn, ne_eq, not_false_eq_true, if_true, Sem.run_bind, h1, h2, h3, Result.andThen_ok]
  cases r <;> rfl
theorem part_int (p : Pl) (w : World) (off : Nat) (n : Int) (h : (plC p).toArray[off]? = some (.int .i64 n)) : (part 3 (plC p).toArray off).run Tryd.prog w = .ok (.int .i64 n) w := run_part_plain w (by kernel_rfl) h
set_option maxRecDepth 100000 in
theorem neqIdP (a b : ID8) (r : Bool) (hb : idE a b = r) : (∀ wx, (binOp .neq 43 (idV a) (idV b)).run Tryd.prog wx = .ok (.bool !r) wx) ∧
    (∀ (o : BinOp) (x y : Operand) (wx : World), (eqGuard o 43 x y (idV a) (idV b)).run Tryd.prog wx = .ok () wx) := by
  subst hb
  refine ⟨fun wx => ?_, fun o x y wx => run_eqGuard_agg wx o _ x y _ _ (by kernel_rfl)⟩
  have h := run_neq_struct (P := Tryd.prog) wx 43 (bA (idL a)) (bA (idL b))
  rw [eqIn_id 9998] at h
  exact h
end Go.Proofs.YtpfmfigommmjiaaDoor
namespace Go.Proofs.YtpfmfigommmjiaaDoor
namespace Plain
end Plain
open Go.RowKit Go.ChangeShapes Go.WideShapes Go.ChangeAt Plain
theorem mapM_some {α β : Type} {f : α → Option β} : ∀ (L : List α) (ys : List β), L.mapM f = some ys → ∀ x ∈ L, ∃ y, f x = some y
  | [], _, _, x, hx => by simp at hx
  | a :: L, ys, h, x, hx => by
    rw [List.mapM_cons] at h
    simp only [bind, Option.bind_eq_some_iff, pure, Option.some.injEq] at h
    obtain ⟨y, hy, zs, hz, rfl⟩ := h
    rcases List.mem_cons.1 hx with rfl | hx
    · exact ⟨y, hy⟩
    · exact mapM_some L zs hz x hx
theorem ints_of {k : IntKind} : ∀ (vs : List Value), (∀ v ∈ vs, ∃ n, v = .int k n ∧ (Lit.int k n).wf = true) → ∃ zs : List Int, vs = zs.map (Value.int k) ∧ ∀ z ∈ zs, (Lit.int k z).wf = true
  | [], _ => ⟨[], rfl, by simp⟩
  | v :: vs, h => by
    obtain ⟨n, rfl, hn⟩ := h v (by simp)
    obtain ⟨zs, rfl, hz⟩ := ints_of vs (fun u hu => h u (by simp [hu]))
    refine ⟨n :: zs, rfl, fun z hz' => ?_⟩
    rcases List.mem_cons.1 hz' with rfl | hz'
    · exact hn
    · exact hz z hz'
theorem open_ints_arr {H : Type} {P : Program} {enc : TypeId × Value → H} {W : World} {base : Nat} {sp : Nat → Bool} {held : Bool} {r : Reach} {b0 : Nat} {t e : TypeId} {n : Nat} {k : IntKind} {v : Value} {d : DataW H} {p : List MemPlace}
    (ht : P.underlying t = some (.array n e)) (he : P.underlying e = some (.int k)) (hc : P.cellsOf e = 1) (hn : P.cellsOf t = n) (ho : Value.okWide P W r b0 t v) (hd : DataW.Trod enc P W base sp held t v d p) :
    ∃ zs : List Int, v = .agg (zs.map (Value.int k)).toArray ∧ zs.length = n ∧ ∀ z ∈ zs, (Lit.int k z).wf = true := by
  simp only [Value.okWide, ht] at ho
  obtain ⟨cs, rfl, h2, _⟩ := ho
  rw [hn] at h2
  obtain ⟨fuel, hf⟩ := hd
  cases fuel with
  | zero => simp [DataW.trod] at hf
  | succ m =>
    rw [DataW.trod_step] at hf
    unfold DataW.trodStep at hf
    simp only [ht, Value.cells] at hf
    rw [if_pos (by rw [hn]; simpa using h2)] at hf
    simp only [Option.map_eq_some_iff] at hf
    obtain ⟨ys, hy, _⟩ := hf
    have hall := mapM_some _ _ hy
    obtain ⟨zs, hz, hw⟩ := ints_of (k := k) cs.toList (fun u hu => by
      obtain ⟨i, hi, rfl⟩ := List.mem_iff_getElem.1 hu
      have hi' : i < n := by rw [Array.length_toList] at hi; omega
      obtain ⟨y, hy⟩ := hall i (by simpa using hi')
      rw [hc, Nat.mul_one] at hy
      obtain ⟨a, ea, _, wa⟩ := DataW.trod_int he hy
      rw [List.drop_eq_getElem_cons hi] at ea
      simp only [List.take_succ_cons, List.take_zero, List.cons.injEq, and_true] at ea
      exact ⟨a, ea, wa⟩)
    refine ⟨zs, by rw [← hz], ?_, hw⟩
    have := congrArg List.length hz
    rw [List.length_map, Array.length_toList] at this
    omega
end Go.Proofs.YtpfmfigommmjiaaDoor
namespace Go.Proofs.YtpfmfigommmjiaaDoor
open Go.RowKit Go.ChangeShapes Go.WideShapes Go.ChangeAt Plain
theorem trod_bytes_cells {H : Type} {P : Program} {enc : TypeId × Value → H} {W : World} {base : Nat} {sp : Nat → Bool} {held : Bool} {t e : TypeId} {n fuel : Nat} {cs : List Value} {x : DataW H × List MemPlace}
    (ht : P.underlying t = some (.array n e)) (he : P.underlying e = some (.int .u8)) (hc : P.cellsOf e = 1) (hn : P.cellsOf t = n) (h : DataW.trod enc P W base sp held fuel t cs = some x) :
    ∃ l : List Nat, cs = l.map bV ∧ l.length = n ∧ ∀ c ∈ l, c < 256 := by
  obtain ⟨xs, m, rfl, _, hlen, hxl, hx⟩ := DataW.trod_array ht h
  rw [hn] at hlen
  obtain ⟨zs, hz, hw⟩ := ints_of (k := .u8) cs (fun u hu => by
    obtain ⟨i, hi, rfl⟩ := List.mem_iff_getElem.1 hu
    have hi' := hx i (by omega)
    rw [hc, Nat.mul_one, List.getElem?_eq_getElem (by omega)] at hi'
    obtain ⟨a, ea, _, wa⟩ := DataW.trod_int he hi'
    rw [List.drop_eq_getElem_cons hi] at ea
    simp only [List.take_succ_cons, List.take_zero, List.cons.injEq, and_true] at ea
    exact ⟨a, ea, wa⟩)
  have hb : ∀ z ∈ zs, 0 ≤ z ∧ z < 256 := fun z hz => by
    have := hw z hz
    have hx : 0 ≤ z ∧ z ≤ 255 := by simpa [Lit.wf, IntKind.min, IntKind.max, IntKind.signed, IntKind.bits] using this
    omega
  refine ⟨zs.map Int.toNat, ?_, by rw [List.length_map, ← hlen, hz, List.length_map], ?_⟩
  · rw [hz, List.map_map]
    apply List.map_congr_left
    intro z hz
    have := hb z hz
    simp only [Function.comp, bV]
    congr 1
    omega
  · intro c hc'
    simp only [List.mem_map] at hc'
    obtain ⟨z, hz, rfl⟩ := hc'
    have := hb z hz
    omega
theorem eight {l : List Nat} (h : l.length = 8) : ∃ t : ID8, l = idL t := by
  match l, h with
  | [a, b, c, d, e, f, g, i], _ => exact ⟨(a, b, c, d, e, f, g, i), rfl⟩
theorem cells_idI : Tryd.prog.cellsOf 43 = 8 := by kernel_rfl
theorem cells_int1 : Tryd.prog.cellsOf 3 = 1 := by kernel_rfl
set_option maxRecDepth 100000 in
theorem open_idI {H : Type} {enc : TypeId × Value → H} {W : World} {base : Nat} {sp : Nat → Bool} {held : Bool} {r : Reach} {b0 : Nat} {v : Value} {d : DataW H} {p : List MemPlace}
    (ho : Value.okWide Tryd.prog W r b0 43 v) (hd : DataW.Trod enc Tryd.prog W base sp held 43 v d p) : ∃ t : ID8, v = idV t ∧ ∀ c ∈ idL t, c < 256 := by
  obtain ⟨zs, rfl, hl, hw⟩ := open_ints_arr Tryd.underlying43 Tryd.underlying5 (by kernel_rfl) cells_idI ho hd
  have hb : ∀ z ∈ zs, 0 ≤ z ∧ z < 256 := fun z hz => by
    have := hw z hz
    have hx : 0 ≤ z ∧ z ≤ 255 := by simpa [Lit.wf, IntKind.min, IntKind.max, IntKind.signed, IntKind.bits] using this
    omega
  obtain ⟨t, ht⟩ := eight (l := zs.map Int.toNat) (by simpa using hl)
  refine ⟨t, ?_, fun c hc => ?_⟩
  · show _ = Value.agg ((idL t).map bV).toArray
    rw [← ht, List.map_map]
    congr 2
    apply List.map_congr_left
    intro z hz
    have := hb z hz
    simp only [Function.comp, bV]
    congr 1
    omega
  · rw [← ht] at hc
    simp only [List.mem_map] at hc
    obtain ⟨z, hz, rfl⟩ := hc
    have := hb z hz
    omega
end Go.Proofs.YtpfmfigommmjiaaDoor
