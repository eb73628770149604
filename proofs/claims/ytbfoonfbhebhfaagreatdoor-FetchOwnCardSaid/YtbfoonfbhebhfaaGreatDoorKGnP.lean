/- Joined: AppendSat, PlEq, OpenArr, PlOpen, Results. -/
import Derived.Test.YtbfoonfbhebhfaaGreatDoorKGnB
import Derived.Deep.RegionHeld3
import Derived.Test.YtbfoonfbhebhfaaGreatDoorKGnO
import Derived.ChangeKeysEq
import Derived.Laws.StructEq
import Derived.WalkKit
import Derived.ChangeOld
import Derived.ShutString
import Derived.ProofKit
import Derived.OpenShut
import Derived.Deep.Slices
import Derived.ChangeArms
import Derived.WalkSpells
import Derived.WalkLawsBesides
import Derived.Laws.Rows
namespace Go.Proofs.YtbfoonfbhebhfaaGreatDoor
open Go.RowKit
section
variable {P : Program} {w : World}
theorem run_append_nil (base : Nat) (t ty e : TypeId) (i : TypeInfo) (size : Nat) (ht : P.underlying t = some (.slice e)) (hi : P.info? e = some i)
  (v : Value) (n : Nat) (xs : List Value) (hown : w.ownsRow base e size v n xs) (c : Nat) : (Builtin.append_ #[t, t] ty #[v, .slice none 0 c]).run P w = .ok v w := by
 rcases hown.2 with ⟨rfl, rfl⟩ | ⟨g, cap, cur, rfl, _, _, hnc, _⟩
 ·
  simp [Builtin.append_, run_underlying ht, sizeOf, typeInfo, hi, Builtin.lenOf, Builtin.firstCells]
 ·
  simp [Builtin.append_, run_underlying ht, sizeOf, typeInfo, hi, Builtin.lenOf, Builtin.firstCells, hnc, storeCells]
theorem sat_cells {α : Type} {size : Nat} {cf : α → List Value} {g off : Nat} {l : List α} (hsz : 0 < size) (hc : ∀ y, (cf y).length = size) (h : SAt size cf w (some ⟨g, off, none⟩) l) : ∀ j u, (l.flatMap cf)[j]? = some u → w.cell? ((⟨g, off, none⟩ : Addr).add j) = some u := by
 intro j u hu
 have hj : j < l.length * size := by
  rcases Nat.lt_or_ge j (l.length * size) with h | h
  ·
   exact h
  ·
   rw [List.getElem?_eq_none (by rw [flat_length hc]; exact h)] at hu; cases hu
 have hi : j / size < l.length := (Nat.div_lt_iff_lt_mul hsz).2 hj
 have hr : j % size < size := Nat.mod_lt _ hsz
 have hd : j / size * size + j % size = j := by rw [Nat.mul_comm]; exact Nat.div_add_mod j size
 obtain ⟨g', off', e, _, hcell⟩ := h (j / size) hi
 injection e with e
 injection e with e1 e2 _
 subst e1 e2
 rw [Addr.add_mid]
 have hu2 := hu
 rw [← hd, flat_get hc l (j / size) (j % size) hi hr] at hu2
 have := hcell (j % size) u hu2
 rwa [Nat.add_assoc, hd] at this
theorem wpList_append_sat {ops : Array Oper} {rest : List Oper} {o : Oper} {a : Act} {Q : Exit → Act → World → Prop} (hgd : o.guard = none) (s x : Operand) (t : TypeId)
  (ho : o.op = .call { callee := .builtin .append, args := #[s, x], argTypes := #[t, t] })
  (base : Nat) (e : TypeId) (i : TypeInfo) (z : Value) (size bytes : Nat) (ht : P.underlying t = some (.slice e)) (hi : P.info? e = some i) (hz : i.zero = some z)
  (hsize : i.size = size) (hby : i.bytes = bytes) (hzs : z.cells.size = size) (hsz : 0 < size)
  (v : Value) (n : Nat) (xs : List Value) (hs : a.eval s = v) (hown : w.ownsRow base e size v n xs)
  {α : Type} {cf : α → List Value} (A : Option Addr) (c : Nat) (l : List α) (hx : a.eval x = .slice A l.length c) (hl : SAt size cf w A l) (hc : ∀ y, (cf y).length = size) (h1 : ∀ y, ∀ u ∈ cf y, u.oneCell' = true)
  (h63 : n + l.length ≤ maxLen) (hbytes : (n + l.length) * bytes ≤ 140737488355328) (hbase : base ≤ w.heap.size)
  (h : ∀ v' w', w'.ownsRow base e size v' (n + l.length) (xs ++ l.flatMap cf) → w.grownBy w' v.ownBlock → wpList P ops Q rest (a.put o.dst v') w') : wpList P ops Q (o :: rest) a w := by
 rcases A with _ | ad
 ·
  have hn : l = [] := by
   cases l with
   | nil => rfl
   | cons y l => obtain ⟨g, off, e, _⟩ := hl 0 (by simp); cases e
  subst hn
  refine wpList_plain hgd fun K hK => ?_
  have hrun := run_append_nil (P := P) (w := w) base t o.type e i size ht hi v n xs hown c
  unfold Oper.wp
  have hx' : a.eval x = .slice none 0 c := hx
  simp [execOp, ho, resolve, invoke, builtin, hs, hx', hrun, Result.andThen]
  exact hK _ _ (h v w (by simpa using hown) (World.grownBy.refl w _))
 ·
  by_cases h0 : l = []
  ·
   subst h0
   exact wpList_append_own w hgd s x t ho base e i z size bytes ht hi hz hsize hby hzs hsz v n xs hs hown ad 0 c [] hx (by simp) (by simp) (by simp) h63 hbytes hbase fun v' w' h2 h3 _ => h v' w' h2 h3
  ·
   obtain ⟨g, off, e', _, _⟩ := hl 0 (List.length_pos_iff.2 h0)
   injection e' with e'
   subst e'
   exact wpList_append_own w hgd s x t ho base e i z size bytes ht hi hz hsize hby hzs hsz v n xs hs hown ⟨g, off, none⟩ l.length c (l.flatMap cf) hx (flat_length hc l) (sat_cells hsz hc hl) (fun u hu => by
    obtain ⟨y, _, hu⟩ := List.mem_flatMap.1 hu
    exact h1 y u hu) h63 hbytes hbase fun v' w' h2 h3 _ => h v' w' h2 h3
end
end Go.Proofs.YtbfoonfbhebhfaaGreatDoor
namespace Go.Proofs.YtbfoonfbhebhfaaGreatDoor
open Go.RowKit Plain
def bA (l : List Nat) : Array Value := (l.map bV).toArray
theorem ext_getDI {a b : List Nat} (h : a.length = b.length) (h2 : ∀ i, i < a.length → a.getD i 0 = b.getD i 0) : a = b := by
 apply List.ext_getElem h
 intro i h1 h3
 have := h2 i h1
 simpa [List.getD_eq_getElem?_getD, List.getElem?_eq_getElem h1, List.getElem?_eq_getElem h3] using this
theorem bA_get (l : List Nat) (i : Nat) (h : i < l.length) : (bA l)[i]? = some (.int .u8 ((l.getD i 0 : Nat) : Int)) := by
 simp [bA, List.getElem?_map, List.getD_eq_getElem?_getD, List.getElem?_eq_getElem h, bV]
theorem run_isAgg_intI {P : Program} (w : World) {e : TypeId} {k : IntKind} (he : P.underlying e = some (.int k)) : (isAgg e).run P w = .ok false w := by
 unfold isAgg
 rw [Sem.run_bind, run_underlying he w]
 rfl
theorem run_part_byteI {P : Program} (w : World) {e : TypeId} {k : IntKind} (he : P.underlying e = some (.int k)) (l : List Nat) (i : Nat) (h : i < l.length) : (part e (bA l) i).run P w = .ok (.int .u8 ((l.getD i 0 : Nat) : Int)) w := by
 unfold part
 rw [Sem.run_bind, run_isAgg_intI w he]
 simp [Result.andThen, bA_get l i h]
theorem run_eqItems_bytesI {P : Program} (d : Nat) {e : TypeId} {k : IntKind} (he : P.underlying e = some (.int k)) (l m : List Nat) (w : World) : ∀ (is : List Nat), (∀ i ∈ is, i < l.length ∧ i < m.length) →
  (Op.eqItems (d + 1) e 1 (bA l) (bA m) is).run P w = .ok (is.all fun i => l.getD i 0 == m.getD i 0) w
 | [], _ => by simp [Op.eqItems]
 | i :: is, h => by
  have hi := h i (by simp)
  have ih := run_eqItems_bytesI d he l m w is (fun j hj => h j (by simp [hj]))
  simp only [Op.eqItems, Sem.run_bind, Nat.mul_one, List.all_cons, run_part_byteI w he l i hi.1, run_part_byteI w he m i hi.2, Result.andThen_ok, Op.equalIn, run_underlying he, if_true, Sem.run_pure]
  generalize l.getD i 0 = x at *
  generalize m.getD i 0 = y at *
  have hb : (((x : Nat) : Int) == ((y : Nat) : Int)) = (x == y) := by
   rw [Bool.eq_iff_iff, beq_iff_eq, beq_iff_eq]; omega
  rw [hb]
  cases c : (x == y)
  ·
   rfl
  ·
   simp only [Bool.not_true, Bool.false_eq_true, if_false, Bool.true_and]
   exact ih
theorem all_range_eqI (l m : List Nat) (n : Nat) (hl : l.length = n) (hm : m.length = n) : ((List.range n).all fun i => l.getD i 0 == m.getD i 0) = decide (l = m) := by
 rw [Bool.eq_iff_iff]
 simp only [List.all_eq_true, List.mem_range, beq_iff_eq, decide_eq_true_eq]
 constructor
 ·
  intro h
  exact ext_getDI (by rw [hl, hm]) (fun i hi => h i (by omega))
 ·
  rintro rfl i _; rfl
theorem run_equalIn_bytes {P : Program} (d : Nat) (w : World) {t e : TypeId} {n : Nat} {k : IntKind} {inf : TypeInfo} (ht : P.underlying t = some (.array n e)) (he : P.underlying e = some (.int k)) (hi : P.info? e = some inf) (hc : P.cellsOf e = 1)
  (l m : List Nat) (hl : l.length = n) (hm : m.length = n) : (Op.equalIn (d + 2) t (.agg (bA l)) (.agg (bA m))).run P w = .ok (decide (l = m)) w := by
 rw [run_equalIn_array w (d + 1) (bA l) (bA m) ht hi, hc, run_eqItems_bytesI d he l m w _ (fun i h => by rw [List.mem_range] at h; omega), all_range_eqI l m n hl hm]
theorem idL_inj {a b : ID8} : idL a = idL b ↔ a = b := by
 obtain ⟨a0, a1, a2, a3, a4, a5, a6, a7⟩ := a
 obtain ⟨b0, b1, b2, b3, b4, b5, b6, b7⟩ := b
 simp [idL]
def idE (a b : ID8) : Bool := decide (idL a = idL b)
theorem idE_true {a b : ID8} : idE a b = true ↔ a = b := by unfold idE; rw [decide_eq_true_eq, idL_inj]
set_option maxRecDepth 100000 in
theorem eqIn_id (d : Nat) (a b : ID8) (w : World) : (Op.equalIn (d + 2) 30 (.agg (bA (idL a))) (.agg (bA (idL b)))).run Tryz.prog w = .ok (idE a b) w := by
 have hsome : (Tryz.prog.info? 5).isSome = true := by kernel_rfl
 obtain ⟨inf, hi⟩ := Option.isSome_iff_exists.1 hsome
 rw [run_equalIn_bytes d w Tryz.underlying30 Tryz.underlying5 hi (by kernel_rfl) (idL a) (idL b) rfl rfl]
 rfl
set_option maxRecDepth 100000 in
theorem neqIdP (a b : ID8) (r : Bool) (hb : idE a b = r) : (∀ wx, (binOp .neq 30 (idV a) (idV b)).run Tryz.prog wx = .ok (.bool !r) wx) ∧
  (∀ (o : BinOp) (x y : Operand) (wx : World), (eqGuard o 30 x y (idV a) (idV b)).run Tryz.prog wx = .ok () wx) := by
 subst hb
 refine ⟨fun wx => ?_, fun o x y wx => run_eqGuard_agg wx o _ x y _ _ (by kernel_rfl)⟩
 have h := run_neq_struct (P := Tryz.prog) wx 30 (bA (idL a)) (bA (idL b))
 rw [eqIn_id 9998] at h
 exact h
end Go.Proofs.YtbfoonfbhebhfaaGreatDoor
namespace Go.Proofs.YtbfoonfbhebhfaaGreatDoor
namespace Plain
end Plain
open Go.RowKit Go.ChangeShapes Go.WideShapes Go.ChangeAt Plain
theorem ints_of {k : IntKind} : ∀ (vs : List Value), (∀ v ∈ vs, ∃ n, v = .int k n ∧ (Lit.int k n).wf = true) → ∃ zs : List Int, vs = zs.map (Value.int k) ∧ ∀ z ∈ zs, (Lit.int k z).wf = true
 | [], _ => ⟨[], rfl, by simp⟩
 | v :: vs, h => by
  obtain ⟨n, rfl, hn⟩ := h v (by simp)
  obtain ⟨zs, rfl, hz⟩ := ints_of vs (fun u hu => h u (by simp [hu]))
  refine ⟨n :: zs, rfl, fun z hz' => ?_⟩
  rcases List.mem_cons.1 hz' with rfl | hz'
  ·
   exact hn
  ·
   exact hz z hz'
end Go.Proofs.YtbfoonfbhebhfaaGreatDoor
namespace Go.Proofs.YtbfoonfbhebhfaaGreatDoor
open Go.RowKit Go.ChangeShapes Go.WideShapes Go.ChangeAt Plain
theorem trod_bytes_cells {H : Type} {P : Program} {enc : TypeId × Value → H} {W : World} {base : Nat} {sp : Nat → Bool} {held : Bool} {t e : TypeId} {n fuel : Nat} {cs : List Value} {x : DataW H × List MemPlace}
  (ht : P.underlying t = some (.array n e)) (he : P.underlying e = some (.int .u8)) (hc : P.cellsOf e = 1) (hn : P.cellsOf t = n) (h : DataW.trod enc P W base sp held fuel t cs = some x) :
  ∃ l : List Nat, cs = l.map bV ∧ l.length = n ∧ ∀ c ∈ l, c < 256 := by
 obtain ⟨xs, m, rfl, _, hlen, hxl, hx⟩ := DataW.trod_array ht h
 rw [hn] at hlen
 obtain ⟨zs, hz, hw⟩ := ints_of (k := .u8) cs (fun u hu => by
  obtain ⟨i, hi, rfl⟩ := List.mem_iff_getElem.1 hu
  have hi' := hx i (by omega)
  rw [hc, Nat.mul_one, List.getElem?_eq_getElem (by omega)] at hi'
  obtain ⟨a, ea, _, wa⟩ := DataW.trod_int he hi'
  rw [List.drop_eq_getElem_cons hi] at ea
  simp only [List.take_succ_cons, List.take_zero, List.cons.injEq, and_true] at ea
  exact ⟨a, ea, wa⟩)
 have hb : ∀ z ∈ zs, 0 ≤ z ∧ z < 256 := fun z hz => by
  have := hw z hz
  have hx : 0 ≤ z ∧ z ≤ 255 := by simpa [Lit.wf, IntKind.min, IntKind.max, IntKind.signed, IntKind.bits] using this
  omega
 refine ⟨zs.map Int.toNat, ?_, by rw [List.length_map, ← hlen, hz, List.length_map], ?_⟩
 ·
  rw [hz, List.map_map]
  apply List.map_congr_left
  intro z hz
  have := hb z hz
  simp only [Function.comp, bV]
  congr 1
  omega
 ·
  intro c hc'
  simp only [List.mem_map] at hc'
  obtain ⟨z, hz, rfl⟩ := hc'
  have := hb z hz
  omega
theorem eight {l : List Nat} (h : l.length = 8) : ∃ t : ID8, l = idL t := by
 match l, h with
 | [a, b, c, d, e, f, g, i], _ => exact ⟨(a, b, c, d, e, f, g, i), rfl⟩
theorem cells_idI : Tryz.prog.cellsOf 30 = 8 := by kernel_rfl
end Go.Proofs.YtbfoonfbhebhfaaGreatDoor
namespace Go.Proofs.YtbfoonfbhebhfaaGreatDoor
open Go.RowKit
theorem results_row {P : Program} {fn : Func} {p : Tmp} {ty : TypeId} (h : fn.results = #[.cell p ty]) (tmps : Array Value) (w : World) (g : Nat) (t : TypeId) (cs : Array Value) (fr : Nat × Nat) (d : TypeDesc)
  (hp : tmps.getD p undef = .pointer (some ⟨g, 0, none⟩)) (hg : w.heap[g]? = some (.cells cs t fr))
  (hu : P.underlying ty = some d) (hd : (match d with | .struct _ | .array _ _ => true | _ => false) = true) (hi : (P.info? ty).map (·.size) = some cs.size) :
  (results fn tmps).run P w = .ok (.agg cs) w := by
 have hp' : tmps[p]?.getD undef = .pointer (some ⟨g, 0, none⟩) := by simpa using hp
 simp [results, h, hp', asAddr, run_loadVar_row w g t ty cs fr d hg hu hd hi]
theorem results_row_tmp1 {P : Program} {fn : Func} {p q : Tmp} {ty : TypeId} (h : fn.results = #[.cell p ty, .tmp q]) (tmps : Array Value) (w : World) (g : Nat) (t : TypeId) (cs : Array Value) (fr : Nat × Nat) (d : TypeDesc)
  (hp : tmps.getD p undef = .pointer (some ⟨g, 0, none⟩)) (hg : w.heap[g]? = some (.cells cs t fr))
  (hu : P.underlying ty = some d) (hd : (match d with | .struct _ | .array _ _ => true | _ => false) = true) (hi : (P.info? ty).map (·.size) = some cs.size) :
  (results fn tmps).run P w = .ok (.tuple #[.agg cs, tmps.getD q undef]) w := by
 have hp' : tmps[p]?.getD undef = .pointer (some ⟨g, 0, none⟩) := by simpa using hp
 simp [results, h, hp', asAddr, run_loadVar_row w g t ty cs fr d hg hu hd hi]
end Go.Proofs.YtbfoonfbhebhfaaGreatDoor
