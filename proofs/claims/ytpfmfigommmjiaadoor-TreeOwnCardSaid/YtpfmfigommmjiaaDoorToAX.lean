/- Joined: AppendNew, RowKit, PressNum, PackId, RollPlain, RollW, RollSum, RollOf, RollWin, RollPush. -/
import Derived.Test.YtpfmfigommmjiaaDoorToAA
import Derived.Test.YtpfmfigommmjiaaDoorToAB
import Derived.Test.YtpfmfigommmjiaaDoorToAN
import Derived.Test.YtpfmfigommmjiaaDoorToAW
import Derived.Test.YtpfmfigommmjiaaDoorToAQ
import Derived.Test.YtpfmfigommmjiaaDoorToAI
import Derived.Test.YtpfmfigommmjiaaDoorToAS
import Derived.Test.YtpfmfigommmjiaaDoorToAG
import Derived.Test.YtpfmfigommmjiaaDoorRows
import Derived.WalkKit
import Derived.WalkSpells
import Derived.WalkLawsBesides
import Derived.Lib.Hide
import Derived.Deep.RegionWith
namespace Go.Proofs.YtpfmfigommmjiaaDoor
open Go.RowKit
section
variable {P : Program} {w : World}
theorem run_append_own2 (base : Nat) (t ty e : TypeId) (i : TypeInfo) (z : Value) (size bytes : Nat) (ht : P.underlying t = some (.slice e)) (hi : P.info? e = some i) (hz : i.zero = some z)
    (hsize : i.size = size) (hby : i.bytes = bytes) (hzs : z.cells.size = size) (hsz : 0 < size)
    (v : Value) (n : Nat) (xs : List Value) (hown : w.ownsRow base e size v n xs)
    (a : Addr) (m c : Nat) (news : List Value) (hl : news.length = m * size) (hnews : ∀ j u, news[j]? = some u → w.cell? (a.add j) = some u) (h1 : ∀ u ∈ news, u.oneCell' = true)
    (h63 : n + m ≤ maxLen) (hbytes : (n + m) * bytes ≤ 140737488355328) (hbase : base ≤ w.heap.size) :
    ∃ v' w', (Builtin.append_ #[t, t] ty #[v, .slice (some a) m c]).run P w = .ok v' w' ∧ w'.ownsRow base e size v' (n + m) (xs ++ news) ∧ w.grownBy w' v.ownBlock ∧
      (v'.ownBlock = v.ownBlock ∨ ∃ k, v'.ownBlock = some k ∧ w.heap.size ≤ k) := by
  obtain ⟨v', w', hr, h2, h3, h4⟩ := run_append_own (P := P) w base t ty e i z size bytes ht hi hz hsize hby hzs hsz v n xs hown a m c news hl hnews h1 h63 hbytes hbase
  refine ⟨v', w', hr, h2, h3, ?_⟩
  subst hsize
  subst hby
  have hsmall : n + m ≤ 9223372036854775807 := by simp only [maxLen] at h63; omega
  rcases hown.2 with ⟨rfl, rfl⟩ | ⟨g, cap, cur, rfl, hbg, hg, hnc, hcm, hcs, htake⟩
  · by_cases hm : m = 0
    · have := h4.2 ⟨rfl, hm⟩
      subst this
      exact .inl rfl
    · have hr2 := _root_.Go.run_append_nil (P := P) w t ty e i z ht hi hz a m c news hl hnews (by omega) (by omega) (by have hb := hbytes; simp only [Nat.zero_add] at hb; omega)
      rw [hr] at hr2
      injection hr2 with e1 _
      subst e1
      exact .inr ⟨_, rfl, Nat.le_refl _⟩
  · by_cases hroom : n + m ≤ cap
    · have hfit : n * i.size + news.length ≤ cur.size := by rw [hl, hcs, ← Nat.add_mul]; exact Nat.mul_le_mul_right _ hroom
      have hr2 := run_append_room (P := P) w t ty e i ht hi g n cap cur hg a m c news hl hnews h1 hroom hfit
      rw [hr] at hr2
      injection hr2 with e1 _
      subst e1
      exact .inl rfl
    · have holds : ∀ j u, xs[j]? = some u → w.cell? ((⟨g, 0, none⟩ : Addr).add j) = some u := hown.cells (g := g) rfl
      have hr2 := run_append_grow (P := P) w t ty e i z ht hi hz ⟨g, 0, none⟩ n cap xs hown.1 holds a m c news hl hnews (by omega) (by omega) (growslice_fits (by omega) hbytes)
      rw [hr] at hr2
      injection hr2 with e1 _
      subst e1
      exact .inr ⟨_, rfl, Nat.le_refl _⟩
theorem run_append_sat2 (base : Nat) (t ty e : TypeId) (i : TypeInfo) (z : Value) (size bytes : Nat) (ht : P.underlying t = some (.slice e)) (hi : P.info? e = some i) (hz : i.zero = some z)
    (hsize : i.size = size) (hby : i.bytes = bytes) (hzs : z.cells.size = size) (hsz : 0 < size)
    (v : Value) (n : Nat) (xs : List Value) (hown : w.ownsRow base e size v n xs)
    {α : Type} {cf : α → List Value} (A : Option Addr) (c : Nat) (l : List α) (hl : SAt size cf w A l) (hc : ∀ y, (cf y).length = size) (h1 : ∀ y, ∀ u ∈ cf y, u.oneCell' = true)
    (h63 : n + l.length ≤ maxLen) (hbytes : (n + l.length) * bytes ≤ 140737488355328) (hbase : base ≤ w.heap.size) :
    ∃ v' w', (Builtin.append_ #[t, t] ty #[v, .slice A l.length c]).run P w = .ok v' w' ∧ w'.ownsRow base e size v' (n + l.length) (xs ++ l.flatMap cf) ∧ w.grownBy w' v.ownBlock ∧
      (v'.ownBlock = v.ownBlock ∨ ∃ k, v'.ownBlock = some k ∧ w.heap.size ≤ k) := by
  rcases A with _ | ad
  · have hn : l = [] := by
      cases l with
      | nil => rfl
      | cons y l => obtain ⟨g, off, e, _⟩ := hl 0 (by simp); cases e
    subst hn
    exact ⟨v, w, run_append_nil (P := P) (w := w) base t ty e i size ht hi v n xs hown c, by simpa using hown, World.grownBy.refl w _, .inl rfl⟩
  · by_cases h0 : l = []
    · subst h0
      exact run_append_own2 base t ty e i z size bytes ht hi hz hsize hby hzs hsz v n xs hown ad 0 c [] (by simp) (by simp) (by simp) h63 hbytes hbase
    · obtain ⟨g, off, e', _, _⟩ := hl 0 (List.length_pos_iff.2 h0)
      injection e' with e'
      subst e'
      exact run_append_own2 base t ty e i z size bytes ht hi hz hsize hby hzs hsz v n xs hown ⟨g, off, none⟩ l.length c (l.flatMap cf) (flat_length hc l) (sat_cells hsz hc hl) (fun u hu => by
        obtain ⟨y, _, hu⟩ := List.mem_flatMap.1 hu
        exact h1 y u hu) h63 hbytes hbase
theorem wp_append_run {o : Oper} {a : Act} {K : Act → World → Prop} {Q : Exit → Act → World → Prop} (s x : Operand) (t : TypeId)
    (ho : o.op = .call { callee := .builtin .append, args := #[s, x], argTypes := #[t, t] }) {v xv v' : Value} {w' : World} (hs : a.eval s = v) (hx : a.eval x = xv)
    (hr : (Builtin.append_ #[t, t] o.type #[v, xv]).run P w = .ok v' w') (h : K (a.put o.dst v') w') : o.wp P a w K Q := by
  unfold Oper.wp execOp
  simp only [ho, resolve, invoke, builtin, Sem.run_bind, Sem.run_pure, Result.andThen_ok, List.map_toArray, List.map_cons, List.map_nil, hs, hx, hr]
  exact h
theorem wpList_append_sat2 {ops : Array Oper} {rest : List Oper} {o : Oper} {a : Act} {Q : Exit → Act → World → Prop} (hgd : o.guard = none) (s x : Operand) (t : TypeId)
    (ho : o.op = .call { callee := .builtin .append, args := #[s, x], argTypes := #[t, t] })
    (base : Nat) (e : TypeId) (i : TypeInfo) (z : Value) (size bytes : Nat) (ht : P.underlying t = some (.slice e)) (hi : P.info? e = some i) (hz : i.zero = some z)
    (hsize : i.size = size) (hby : i.bytes = bytes) (hzs : z.cells.size = size) (hsz : 0 < size)
    (v : Value) (n : Nat) (xs : List Value) (hs : a.eval s = v) (hown : w.ownsRow base e size v n xs)
    {α : Type} {cf : α → List Value} (A : Option Addr) (c : Nat) (l : List α) (hx : a.eval x = .slice A l.length c) (hl : SAt size cf w A l) (hc : ∀ y, (cf y).length = size) (h1 : ∀ y, ∀ u ∈ cf y, u.oneCell' = true)
    (h63 : n + l.length ≤ maxLen) (hbytes : (n + l.length) * bytes ≤ 140737488355328) (hbase : base ≤ w.heap.size)
    (h : ∀ v' w', w'.ownsRow base e size v' (n + l.length) (xs ++ l.flatMap cf) → w.grownBy w' v.ownBlock → (v'.ownBlock = v.ownBlock ∨ ∃ k, v'.ownBlock = some k ∧ w.heap.size ≤ k) → wpList P ops Q rest (a.put o.dst v') w') : wpList P ops Q (o :: rest) a w := by
  refine wpList_plain hgd fun K hK => ?_
  obtain ⟨v', w', hrun, h2, h3, h4⟩ := run_append_sat2 (P := P) (w := w) base t o.type e i z size bytes ht hi hz hsize hby hzs hsz v n xs hown A c l hl hc h1 h63 hbytes hbase
  unfold Oper.wp execOp
  simp only [ho, resolve, invoke, builtin, Sem.run_bind, Sem.run_pure, Result.andThen_ok, List.map_toArray, List.map_cons, List.map_nil, hs, hx, hrun]
  exact hK _ _ (h v' w' h2 h3 h4)
end
end Go.Proofs.YtpfmfigommmjiaaDoor
namespace Go.Proofs.YtpfmfigommmjiaaDoor
open Go.RowKit
set_option linter.unusedVariables false
set_option linter.unusedSimpArgs false
theorem heap_twoK (w : World) (o1 o2 : Obj) : ((w.alloc o1).alloc o2).heap[w.heap.size]? = some o1 ∧ ((w.alloc o1).alloc o2).heap[w.heap.size + 1]? = some o2 := by
  constructor
  · exact (Below.heap_alloc (w.alloc o1) o2 w.heap.size (by simp)).trans (heap_alloc_new w o1)
  · have := heap_alloc_new (w.alloc o1) o2
    simpa using this
/-- a whole row of the call's own stored over -/
theorem st_row {P : Program} {Q : Exit → Act → World → Prop} {a : Act} {o : Oper} {x y : Operand} {w0 u : World} {B b n : Nat} {ty : TypeId} {full : Array Value} (ho : o.op = .store ty x y) (hx : a.eval x = .pointer (some ⟨b, 0, none⟩)) (hy : a.eval y = .agg full)
    (hS : Below B w0 u) (hZ : RowZ ty B b n u) (hf : full.size = n) (hi : (P.info? ty).map (·.size) = some full.size) (h1 : full.all (·.oneCell') = true) (hdst : o.dst = none) :
    o.wp P a u (fun a' w' => a'.defers = a.defers ∧ Below B w0 w' ∧ w'.heap[b]? = some (.cells full ty (0, 0)) ∧ ∀ k, k ≠ b → w'.heap[k]? = u.heap[k]?) Q := by
  obtain ⟨h3, cs, h4, h5⟩ := hZ
  have hth := there_row h4
  rw [h5, ← hf] at hth
  refine wp_store_mid ty x y ho b 0 full hx hy hth hi h1 ?_
  have h6 := setCells_full h4 full (by rw [hf, h5])
  exact ⟨by rw [hdst]; rfl, below_setCells h3 _ _ hS, h6, fun k hk => heap_setCells_other _ _ hk _ _ _⟩
theorem own_keep {w w' : World} {base : Nat} {e : TypeId} {k : Nat} {v : Value} {n : Nat} {xs : List Value} (h : w.ownsRow base e k v n xs) (hb : ∀ g cs, w.heap[g]? = some (.cells cs e (0, 0)) → base ≤ g → w'.heap[g]? = w.heap[g]?) : w'.ownsRow base e k v n xs := by
  refine ⟨h.1, ?_⟩
  rcases h.2 with hv | ⟨g, cap, cur, hv, hB, hg, h3⟩
  · exact .inl hv
  · exact .inr ⟨g, cap, cur, hv, hB, (hb g cur hg hB).trans hg, h3⟩
theorem type_ne {w : World} {g b : Nat} {cs cs' : Array Value} {t t' : TypeId} (h : w.heap[g]? = some (.cells cs t (0, 0))) (h' : w.heap[b]? = some (.cells cs' t' (0, 0))) (ht : t ≠ t') : g ≠ b := by
  intro e
  rw [e, h'] at h
  injection h with h
  injection h with _ h
  exact ht h.symm
theorem rowz_ne {w : World} {g b n B0 : Nat} {cs : Array Value} {t t' : TypeId} (h : w.heap[g]? = some (.cells cs t (0, 0))) (h' : RowZ t' B0 b n w) (ht : t ≠ t') : g ≠ b := by
  obtain ⟨_, cs', h2, _⟩ := h'
  exact type_ne h h2 ht
/-- what a sender of the call's own is made of -/
theorem sat_own1 {α : Type} {c : α → List Value} {w : World} {base k : Nat} {a : Option Addr} {cc : Nat} {l : List α} {T : TypeId} (hc : ∀ y, (c y).length = k) (h : w.ownsRow base T k (.slice a l.length cc) l.length (l.flatMap c)) : SAt k c w a l := by
  obtain ⟨a', c', e1, _, _, h⟩ := SAt.own h hc
  injection e1 with e1 _ _
  subst e1
  exact h
theorem own_mono {w : World} {base base' : Nat} {e : TypeId} {k : Nat} {v : Value} {n : Nat} {xs : List Value} (h : w.ownsRow base e k v n xs) (hb : base' ≤ base) : w.ownsRow base' e k v n xs := by
  refine ⟨h.1, ?_⟩
  rcases h.2 with hv | ⟨g, cap, cur, hv, hB, hg, h3⟩
  · exact .inl hv
  · exact .inr ⟨g, cap, cur, hv, Nat.le_trans hb hB, hg, h3⟩
theorem own_neqK {w : World} {base : Nat} {t t' : TypeId} {k n g : Nat} {v : Value} {xs : List Value} {cs : Array Value} (h : w.ownsRow base t k v n xs) (hg : w.heap[g]? = some (.cells cs t' (0, 0))) (ht : t' ≠ t) : some g ≠ v.ownBlock := by
  rcases h.2 with ⟨rfl, _⟩ | ⟨g', cap, cur, rfl, _, hh, _⟩
  · simp [Value.ownBlock]
  · intro he
    have e : g = g' := by simpa [Value.ownBlock] using he
    exact type_ne hg hh ht e
theorem own_capK {w : World} {base : Nat} {t : TypeId} {k n c m : Nat} {a : Option Addr} {xs : List Value} (h : w.ownsRow base t k (.slice a m c) n xs) : n ≤ c ∧ c ≤ 9223372036854775807 := by
  rcases h.2 with ⟨e0, h0⟩ | ⟨g, c', cur, e0, _, _, hn, hm, _⟩
  · injection e0 with _ _ e3
    omega
  · injection e0 with _ _ e3
    subst e3
    exact ⟨hn, by unfold maxLen at hm; exact hm⟩
/-- packets in blocks of their own -/
theorem SAt.keep {α : Type} {n : Nat} {c : α → List Value} {w w' : World} {a : Option Addr} {l : List α} (h : SAt n c w a l) (hs : w.heap.size ≤ w'.heap.size) (hb : ∀ ad, a = some ad → w'.heap[ad.block]? = w.heap[ad.block]?) : SAt n c w' a l := fun i hi => by
  obtain ⟨b, off, e, hbl, hr⟩ := h i hi
  refine ⟨b, off, e, Nat.lt_of_lt_of_le hbl hs, fun j u hu => ?_⟩
  rw [World.cell?_of_block (a := ⟨b, off + i * n + j, none⟩) (hb ⟨b, off, none⟩ e)]
  exact hr j u hu
theorem row_part {w : World} {b : Nat} {full : Array Value} {T : TypeId} {fr : Nat × Nat} (h : w.heap[b]? = some (.cells full T fr)) (o n : Nat) {cs : List Value} (hc : cs = (full.toList.drop o).take n) : w.rangeAt b o cs := by
  intro j u hu
  rw [hc, List.getElem?_take] at hu
  split at hu
  · rw [List.getElem?_drop, Array.getElem?_toList] at hu
    rw [cell_of_row _ _ _ _ _ _ h]
    exact hu
  · cases hu
theorem there_part {w : World} {b o n : Nat} {full : Array Value} {T : TypeId} (h : w.heap[b]? = some (.cells full T (0, 0))) (hn : o + n ≤ full.size) : w.there b o n := fun j hj => by
  refine ⟨?_, frozen_of_row _ _ _ _ _ h⟩
  rw [cell_of_row _ _ _ _ _ _ h, Array.getElem?_eq_getElem (by omega)]
  rfl
theorem wp_call_run {P : Program} {o : Oper} {a : Act} {w : World} {K : Act → World → Prop} {Q : Exit → Act → World → Prop} {f : FuncId} {args : Array Value} {post : Ending → World → Prop} (he : (execOp a.eval o).run P w = .ok (.enter f args) w) (hc : Calls P f args w post)
    (h : ∀ e w', post e w' → ∃ v, e = .returned v ∧ K (a.put o.dst v) w') : o.wp P a w K Q := by
  unfold Oper.wp
  rw [he]
  refine Calls.mono hc ?_
  rintro e w' hp
  obtain ⟨v, rfl, hk⟩ := h e w' hp
  exact hk
theorem wp_value_run {P : Program} {o : Oper} {a : Act} {w w' : World} {v : Value} {K : Act → World → Prop} {Q : Exit → Act → World → Prop} (he : (execOp a.eval o).run P w = .ok (.value v) w') (h : K (a.put o.dst v) w') : o.wp P a w K Q := by
  unfold Oper.wp
  rw [he]
  exact h
theorem below_grown2 {u u' : World} {x : Option Nat} (h : Below u.heap.size u u') : u.grownBy u' x := ⟨h.os, h.tape, h.output, h.size, fun k hk _ => h.block k hk⟩
theorem row_rangeG {w : World} {b : Nat} {t : TypeId} {cs : Array Value} (h : w.heap[b]? = some (.cells cs t (0, 0))) : w.rangeAt b 0 cs.toList := fun j v hj => by
  rw [Nat.zero_add, cell_of_row _ _ _ _ _ _ h]
  simpa using hj
end Go.Proofs.YtpfmfigommmjiaaDoor
namespace Go.Proofs.YtpfmfigommmjiaaDoor
open Go.RowKit
set_option linter.unusedVariables false
theorem results_cell_row3 {P : Program} {fn : Func} {p u v : Tmp} {ty : TypeId} (h : fn.results = #[.cell p ty, .tmp u, .tmp v]) (tmps : Array Value) (w : World) (g : Nat) (t : TypeId) (cs : Array Value) (fr : Nat × Nat) (d : TypeDesc)
    (hp : tmps.getD p undef = .pointer (some ⟨g, 0, none⟩)) (hg : w.heap[g]? = some (.cells cs t fr))
    (hu : P.underlying ty = some d) (hd : (match d with | .struct _ | .array _ _ => true | _ => false) = true) (hi : (P.info? ty).map (·.size) = some cs.size) :
    (results fn tmps).run P w = .ok (.tuple #[.agg cs, tmps.getD u undef, tmps.getD v undef]) w := by
  have hp' : tmps[p]?.getD undef = .pointer (some ⟨g, 0, none⟩) := by simpa using hp
  simp [results, h, hp', asAddr, run_loadVar_row w g t ty cs fr d hg hu hd hi]
theorem row_full {w : World} {b : Nat} {t : TypeId} {cs : Array Value} {ns : Array Value} (h : w.heap[b]? = some (.cells cs t (0, 0))) (hn : cs.size = ns.size) : (w.setCells b 0 ns.toList).heap[b]? = some (.cells ns t (0, 0)) := by
  have := row_mid [] cs.toList [] ns.toList (w := w) (g := b) (t := t) (by simpa using h) (by simpa using hn)
  simpa using this
end Go.Proofs.YtpfmfigommmjiaaDoor
namespace Go.Proofs.YtpfmfigommmjiaaDoor
open Go.RowKit Plain
set_option linter.unusedVariables false
set_option linter.unusedSimpArgs false
abbrev Bl := Int × ByteArray
def blC (b : Bl) : List Value := [.int .i64 b.1, .string b.2]
theorem blC_length (b : Bl) : (blC b).length = 2 := rfl
theorem blC_one (b : Bl) : ∀ u ∈ blC b, u.oneCell' = true := by intro u hu; simp only [blC, List.mem_cons, List.not_mem_nil, or_false] at hu; rcases hu with rfl | rfl <;> rfl
/-- what pack.ID says of a blob -/
def pcode (b : Bl) : Nat := if 1 ≤ b.1 ∧ b.1 ≤ 3 then (if 4096 < b.2.size then 2 else 0) else 5
def z8 : List Nat := [0, 0, 0, 0, 0, 0, 0, 0]
def pidL (b : Bl) : List Nat := if pcode b = 0 then be8 (hsum (b.1.toNat :: strN b.2)) else z8
theorem pcode_kind {b : Bl} (h : ¬ (1 ≤ b.1 ∧ b.1 ≤ 3)) : pcode b = 5 := by unfold pcode; rw [if_neg h]
theorem pcode_large {b : Bl} (h : 1 ≤ b.1 ∧ b.1 ≤ 3) (h1 : 4096 < b.2.size) : pcode b = 2 := by unfold pcode; rw [if_pos h, if_pos h1]
theorem pcode_ok {b : Bl} (h : 1 ≤ b.1 ∧ b.1 ≤ 3) (h1 : ¬ 4096 < b.2.size) : pcode b = 0 := by unfold pcode; rw [if_pos h, if_neg h1]
theorem pcode_zero {b : Bl} (h : pcode b = 0) : (1 ≤ b.1 ∧ b.1 ≤ 3) ∧ b.2.size ≤ 4096 := by
  unfold pcode at h
  split at h
  · rename_i h1
    split at h
    · cases h
    · exact ⟨h1, by omega⟩
  · cases h
theorem pidL_bad {b : Bl} (h : pcode b ≠ 0) : pidL b = z8 := by unfold pidL; rw [if_neg h]
theorem pidL_ok {b : Bl} (h : pcode b = 0) : pidL b = be8 (hsum (b.1.toNat :: strN b.2)) := by unfold pidL; rw [if_pos h]
theorem pidL_length (b : Bl) : (pidL b).length = 8 := by unfold pidL; split <;> rfl
theorem pidL_lt (b : Bl) : ∀ c ∈ pidL b, c < 256 := by
  unfold pidL
  split
  · exact be8_lt _
  · intro c hc; simp only [z8, List.mem_cons, List.not_mem_nil, or_false] at hc; omega
set_option maxRecDepth 100000 in
theorem pkn_any (k : Int) (w : World) : Calls Tryd.prog 23 #[.int .i64 k] w fun e w' => e = .returned (.bool (decide (1 ≤ k ∧ k ≤ 3))) ∧ w' = w := by
  by_cases h1 : 1 ≤ k
  · by_cases h2 : k ≤ 3
    · have hd : decide (1 ≤ k ∧ k ≤ 3) = true := decide_eq_true ⟨h1, h2⟩
      rw [hd]
      clear hd
      go_enter Tryd.func23, Tryd.ntmps23
      go_wp2_with fail
      go_ret
      exact ⟨rfl, rfl⟩
    · have hd : decide (1 ≤ k ∧ k ≤ 3) = false := decide_eq_false (fun h => h2 h.2)
      rw [hd]
      clear hd
      go_enter Tryd.func23, Tryd.ntmps23
      go_wp2_with fail
      go_ret
      exact ⟨rfl, rfl⟩
  · have hd : decide (1 ≤ k ∧ k ≤ 3) = false := decide_eq_false (fun h => h1 h.1)
    rw [hd]
    clear hd
    go_enter Tryd.func23, Tryd.ntmps23
    go_wp2_with fail
    go_ret
    exact ⟨rfl, rfl⟩
def PidEnd (b : Bl) (w0 : World) (e : Ending) (w : World) : Prop := e = .returned (.tuple #[.agg (bC (pidL b)), .int .i64 (pcode b : Int)]) ∧ Below w0.heap.size w0 w
abbrev z8A : Array Value := #[.int .u8 0, .int .u8 0, .int .u8 0, .int .u8 0, .int .u8 0, .int .u8 0, .int .u8 0, .int .u8 0]
theorem bC_z8 : bC z8 = z8A := rfl
theorem info_id8 : (Tryd.prog.info? 43).map (·.size) = some 8 := by kernel_rfl
theorem info_idB {l : List Nat} (hl : l.length = 8) : (Tryd.prog.info? 43).map (·.size) = some (bC l).size := by rw [bC_size, hl]; exact info_id8
theorem there_idB {w : World} {B : Nat} {l : List Nat} {cs : Array Value} {T : TypeId} (h : w.heap[B]? = some (.cells cs T (0, 0))) (hc : cs.size = 8) (hl : l.length = 8) : w.there B 0 (bC l).size := there_part h (by rw [bC_size, hl, hc]; omega)
theorem row_idB {w : World} {B : Nat} {l : List Nat} {cs : Array Value} {T : TypeId} (h : w.heap[B]? = some (.cells cs T (0, 0))) (hc : cs.size = 8) (hl : l.length = 8) : (w.setCells B 0 (bC l).toList).heap[B]? = some (.cells (bC l) T (0, 0)) := row_full h (by rw [bC_size, hl, hc])
theorem bC_oneP (l : List Nat) : (bC l).all (·.oneCell') = true := bC_one l
set_option maxRecDepth 100000 in
set_option maxHeartbeats 4000000 in
theorem pid_any (b : Bl) (w : World) : Calls Tryd.prog 18 #[.agg #[.int .i64 b.1, .string b.2]] w (PidEnd b w) := by
  obtain ⟨k, s⟩ := b
  have h2 := heap_twoK w (.cells #[.int .i64 k, .string s] 28) (.cells z8A 43)
  have c0 := cell_of_row _ _ 0 _ _ _ h2.1
  have c1 := cell_of_row _ _ 1 _ _ _ h2.1
  simp only [List.getElem?_toArray, List.getElem?_cons_succ, List.getElem?_cons_zero] at c0 c1
  have HR2 := Lib.hid h2.2
  have HB2 := Lib.hid (((Below.refl w.heap.size w).alloc (Nat.le_refl _) (.cells #[.int .i64 k, .string s] 28)).alloc (by simp) (.cells z8A 43))
  have HTH0 : Hid (((w.alloc (.cells #[.int .i64 k, .string s] 28)).alloc (.cells z8A 43)).there (w.heap.size + 1) 0 z8A.size) := there_part h2.2 (by show 0 + 8 ≤ 8; omega)
  have HI0 : Hid ((Tryd.prog.info? 43).map (·.size) = some z8A.size) := info_id8
  have HO0 : Hid (z8A.all (·.oneCell') = true) := by show _ = _; simp [Value.oneCell']
  have HRW0 : Hid ((((w.alloc (.cells #[.int .i64 k, .string s] 28)).alloc (.cells z8A 43)).setCells (w.heap.size + 1) 0 z8A.toList).heap[w.heap.size + 1]? = some (.cells z8A 43 (0, 0))) := row_full h2.2 rfl
  have HBW0 : Hid (Below w.heap.size w (((w.alloc (.cells #[.int .i64 k, .string s] 28)).alloc (.cells z8A 43)).setCells (w.heap.size + 1) 0 z8A.toList)) := below_setCells (Nat.le_succ _) _ _ HB2.out
  clear h2
  have HK := Lib.hid fun wx => pkn_any k wx
  go_enter Tryd.func18, Tryd.ntmps18
  go_wp2_with fail
  refine (HK.out _).mono ?_
  rintro e w1 ⟨rfl, rfl⟩
  by_cases hk : 1 ≤ k ∧ k ≤ 3
  · rw [decide_eq_true hk]
    by_cases hs : 4096 < s.size
    · have z1 : (4096 : Int) < (s.size : Int) := by omega
      have HP : Hid (pcode (k, s) = 2) := pcode_large hk hs
      clear hk hs
      go_wp2_with (with_reducible refine wpList_store_mid rfl 43 (.tmp 2) (.tmp 15) rfl (w.heap.size + 1) 0 z8A rfl rfl HTH0.out HI0.out HO0.out ?_)
      refine bodyPost_ret (results_row_tmp1 rfl _ _ (w.heap.size + 1) 43 z8A (0, 0) _ rfl HRW0.out Tryd.underlying43 rfl HI0.out) rfl ?_
      exact ⟨by rw [HP.out, pidL_bad (by rw [HP.out]; decide), bC_z8]; rfl, HBW0.out⟩
    · have z1 : ¬ (4096 : Int) < (s.size : Int) := by omega
      have hp := pcode_ok (b := (k, s)) hk hs
      have hid := pidL_ok hp
      obtain ⟨n, rfl⟩ := Int.eq_ofNat_of_zero_le (show 0 ≤ k by omega)
      have z2 : (0 : Int) ≤ (n : Int) := Int.natCast_nonneg _
      have z3 : (n : Int) < 256 := by omega
      have hcv := conv1 n (by omega) ((w.alloc (.cells #[.int .i64 (n : Int), .string s] 28)).alloc (.cells z8A 43))
      simp only [World.size_alloc] at hcv
      have hmx : ¬ 9223372036854775807 < (strOf [n]).size + s.size := by rw [strOf_size]; show ¬ _ < 1 + _; omega
      have HID := Lib.hid fun wx => id_any (strOf [n] ++ s) wx (by rw [ByteArray.size_append]; omega)
      have hst : strN (strOf [n] ++ s) = n :: strN s := by rw [strN_add, strN_strOf [n] (by intro c hc; rw [List.mem_singleton] at hc; omega)]; rfl
      rw [hst] at HID
      rw [Int.toNat_natCast] at hid
      have HPC := Lib.hid hp
      have HPI := Lib.hid hid
      have hbl : (be8 (hsum (n :: strN s))).length = 8 := rfl
      generalize be8 (hsum (n :: strN s)) = idl at *
      have HBL := Lib.hid hbl
      clear hk hs hst hp hid hbl HTH0 HRW0 HBW0
      go_wp2_with fail
      refine (HID.out _).mono ?_
      rintro e w3 ⟨rfl, hb3⟩
      clear hcv
      have hb2' := HB2.out.alloc HB2.out.size (.cells #[.int .u8 (n : Int)] 5)
      have HB3 := Lib.hid (hb2'.trans (hb3.mono hb2'.size))
      have hr3 : w3.heap[w.heap.size + 1]? = some (.cells z8A 43 (0, 0)) := (hb3.block _ (by simp)).trans ((Below.heap_alloc _ _ _ (by simp)).trans HR2.out)
      have HTH : Hid (w3.there (w.heap.size + 1) 0 (bC idl).size) := there_idB hr3 rfl HBL.out
      have HIB : Hid ((Tryd.prog.info? 43).map (·.size) = some (bC idl).size) := info_idB HBL.out
      have HOB : Hid ((bC idl).all (·.oneCell') = true) := bC_oneP idl
      have HRW : Hid ((w3.setCells (w.heap.size + 1) 0 (bC idl).toList).heap[w.heap.size + 1]? = some (.cells (bC idl) 43 (0, 0))) := row_idB hr3 rfl HBL.out
      have HBW : Hid (Below w.heap.size w (w3.setCells (w.heap.size + 1) 0 (bC idl).toList)) := below_setCells (Nat.le_succ _) _ _ HB3.out
      clear hb3 hb2' hr3
      go_wp2_with (with_reducible refine wpList_store_mid rfl 43 (.tmp 2) (.tmp 24) rfl (w.heap.size + 1) 0 (bC idl) rfl rfl HTH.out HIB.out HOB.out ?_)
      refine bodyPost_ret (results_row_tmp1 rfl _ _ (w.heap.size + 1) 43 (bC idl) (0, 0) _ rfl HRW.out Tryd.underlying43 rfl HIB.out) rfl ?_
      exact ⟨by rw [HPC.out, HPI.out]; rfl, HBW.out⟩
  · rw [decide_eq_false hk]
    have HP : Hid (pcode (k, s) = 5) := pcode_kind hk
    clear hk
    go_wp2_with (with_reducible refine wpList_store_mid rfl 43 (.tmp 2) (.tmp 9) rfl (w.heap.size + 1) 0 z8A rfl rfl HTH0.out HI0.out HO0.out ?_)
    refine bodyPost_ret (results_row_tmp1 rfl _ _ (w.heap.size + 1) 43 z8A (0, 0) _ rfl HRW0.out Tryd.underlying43 rfl HI0.out) rfl ?_
    exact ⟨by rw [HP.out, pidL_bad (by rw [HP.out]; decide), bC_z8]; rfl, HBW0.out⟩
end Go.Proofs.YtpfmfigommmjiaaDoor
namespace Go.Proofs.YtpfmfigommmjiaaDoor.Plain
def redStep (i : Nat) (n : Nat) : Nat := n ^^^ (bif n.testBit i then 2147483657 <<< (i - 31) else 0)
def redK : Nat → Nat → Nat
  | 0, n => n
  | k + 1, n => redK k (redStep (31 + k) n)
def red (n : Nat) : Nat := redK 33 n
end Go.Proofs.YtpfmfigommmjiaaDoor.Plain
namespace Go.Proofs.YtpfmfigommmjiaaDoor
open Go.RowKit Plain
end Go.Proofs.YtpfmfigommmjiaaDoor
namespace Go.Proofs.YtpfmfigommmjiaaDoor.Plain
def shf (n : Nat) : Nat := red (n <<< 8)
def rfold (n : Nat) (l : List Nat) : Nat := l.foldl (fun n b => shf n ^^^ b) n
def rof (l : List Nat) : Nat := rfold 0 (l.drop (l.length - 16))
end Go.Proofs.YtpfmfigommmjiaaDoor.Plain
namespace Go.Proofs.YtpfmfigommmjiaaDoor
open Go.RowKit Plain
end Go.Proofs.YtpfmfigommmjiaaDoor
namespace Go.Proofs.YtpfmfigommmjiaaDoor.Plain
def Win (l win : List Nat) : Prop := win.length = 16 ∧ (∀ c ∈ win, c < 256) ∧ ∀ d, d < 16 → win.getD ((l.length + d) % 16) 0 = (List.replicate 16 0 ++ l).getD (l.length + d) 0
theorem Win.nil : Win [] (List.replicate 16 0) := ⟨by simp, by simp, by decide⟩
end Go.Proofs.YtpfmfigommmjiaaDoor.Plain
namespace Go.Proofs.YtpfmfigommmjiaaDoor
open Go.RowKit Plain
end Go.Proofs.YtpfmfigommmjiaaDoor
