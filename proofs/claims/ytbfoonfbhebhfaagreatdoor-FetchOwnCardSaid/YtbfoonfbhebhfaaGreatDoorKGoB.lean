/- Joined: WalkReap. -/
import Derived.Test.YtbfoonfbhebhfaaGreatDoorKGoA
namespace Go.Proofs.YtbfoonfbhebhfaaGreatDoor
open Go.RowKit Plain Go.Maps Go.ChangeMaps
set_option linter.unusedVariables false
set_option linter.unusedSimpArgs false
structure FrR (R : Nat) (ob ob' : Option Nat) (w w' : World) : Prop where
 os : w'.os = w.os
 tape : w'.tape = w.tape
 output : w'.output = w.output
 size : w.heap.size ≤ w'.heap.size
 block : ∀ k, k < w.heap.size → k ≠ R → some k ≠ ob → w'.heap[k]? = w.heap[k]?
 next : ob' = ob ∨ ∃ g, ob' = some g ∧ w.heap.size ≤ g
theorem FrR.refl (R : Nat) (ob : Option Nat) (w : World) : FrR R ob ob w w := ⟨rfl, rfl, rfl, Nat.le_refl _, fun _ _ _ _ => rfl, .inl rfl⟩
theorem FrR.of_below {R : Nat} {ob : Option Nat} {w w' : World} (h : Below w.heap.size w w') : FrR R ob ob w w' := ⟨h.os, h.tape, h.output, h.size, fun k hk _ _ => h.block k hk, .inl rfl⟩
theorem FrR.trans {R : Nat} {ob ob' ob2 : Option Nat} {a b c : World} (h : FrR R ob ob' a b) (g : FrR R ob' ob2 b c) : FrR R ob ob2 a c := by
 refine ⟨g.os.trans h.os, g.tape.trans h.tape, g.output.trans h.output, Nat.le_trans h.size g.size, fun k hk hne hob => ?_, ?_⟩
 ·
  have hs := h.size
  rw [g.block k (by omega) hne (fun e => ?_), h.block k hk hne hob]
  rcases h.next with e2 | ⟨x, e2, hx⟩
  ·
   exact hob (by rw [← e2, ← e])
  ·
   rw [e2] at e; injection e with e; omega
 ·
  rcases g.next with e | ⟨x, e, hx⟩
  ·
   rcases h.next with e2 | ⟨x, e2, hx⟩
   ·
    exact .inl (e.trans e2)
   ·
    exact .inr ⟨x, e.trans e2, hx⟩
  ·
   exact .inr ⟨x, e, Nat.le_trans h.size hx⟩
theorem FrR.below {R : Nat} {ob ob' : Option Nat} {w w' : World} (h : FrR R ob ob' w w') {B : Nat} (hR : B ≤ R) (hob : ∀ g, ob = some g → B ≤ g) (hB : B ≤ w.heap.size) : Below B w w' :=
 ⟨h.os, h.tape, h.output, h.size, fun k hk => h.block k (by omega) (by omega) (fun e => by have := hob k e.symm; omega)⟩
theorem FrR.sat {α : Type} {n : Nat} {c : α → List Value} {R : Nat} {ob ob' : Option Nat} {w w' : World} (h : FrR R ob ob' w w') {a : Option Addr} {l : List α} (hs : SAt n c w a l) (h1 : ∀ ad, a = some ad → ad.block ≠ R ∧ some ad.block ≠ ob) : SAt n c w' a l := fun i hi => by
 obtain ⟨g, off, e, hg, hr⟩ := hs i hi
 refine ⟨g, off, e, Nat.lt_of_lt_of_le hg h.size, range_other hr (h.block g hg (h1 _ e).1 (h1 _ e).2)⟩
def Rpr (w : World) (R H : Nat) (oa : Option Addr) (on oc : Nat) : Prop := w.heap[R]? = some (.cells #[.map (some H), .slice oa on oc] 107 (0, 0))
theorem Rpr.c0 {w : World} {R H : Nat} {oa : Option Addr} {on oc : Nat} (h : Rpr w R H oa on oc) : w.cell? ⟨R, 0, none⟩ = some (.map (some H)) := by
 have := cell_of_row _ _ 0 _ _ _ h
 simpa using this
theorem Rpr.c1 {w : World} {R H : Nat} {oa : Option Addr} {on oc : Nat} (h : Rpr w R H oa on oc) : w.cell? ⟨R, 1, none⟩ = some (.slice oa on oc) := by
 have := cell_of_row _ _ 1 _ _ _ h
 simpa using this
def RS (base R H : Nat) (es : List (List Nat × Bl)) (out : List It) (oa : Option Addr) (oc : Nat) (w : World) : Prop :=
 Rpr w R H oa out.length oc ∧ w.ownsRow base 40 5 (.slice oa out.length oc) out.length (out.flatMap iC) ∧ w.heap[H]? = some (imO blV es) ∧ base ≤ R
theorem RS.below {base R H : Nat} {es : List (List Nat × Bl)} {out : List It} {oa : Option Addr} {oc : Nat} {w w' : World} (h : RS base R H es out oa oc w) (hb : Below w.heap.size w w') : RS base R H es out oa oc w' :=
 ⟨(hb.block R (lt_of_block h.1)).trans h.1, own_belowK h.2.1 hb, (hb.block H (lt_of_block h.2.2.1)).trans h.2.2.1, h.2.2.2⟩
--WALKS
theorem rfind_look {H : Nat} {es : List (List Nat × Bl)} (hes : ∀ e ∈ es, e.1.length = 8) {b0 b1 b2 b3 b4 b5 b6 b7 : Nat} {kind : Int} {s : ByteArray} (hlk : ilk es [b0, b1, b2, b3, b4, b5, b6, b7] = some (kind, s)) (u : World) (hH : u.heap[H]? = some (imO blV es)) :
  (Instr.lookup 97 (.map (some H)) (.agg #[.int .u8 (b0 : Int), .int .u8 (b1 : Int), .int .u8 (b2 : Int), .int .u8 (b3 : Int), .int .u8 (b4 : Int), .int .u8 (b5 : Int), .int .u8 (b6 : Int), .int .u8 (b7 : Int)]) true).run Tryz.prog u = .ok (.tuple #[.agg #[.int .i64 kind, .string s], .bool true]) u := by
 have hl := look_id2 blV (w := u) (b := H) (mt := 97) Tryz.underlying97 (zero_blW _) hH [b0, b1, b2, b3, b4, b5, b6, b7] rfl hes
 rw [hlk] at hl
 exact hl
set_option maxRecDepth 100000 in
set_option maxHeartbeats 2000000 in
theorem rfind_any {R H : Nat} {es : List (List Nat × Bl)} (hes : ∀ e ∈ es, e.1.length = 8) (b0 b1 b2 b3 b4 b5 b6 b7 : Nat) (kind : Int) (s : ByteArray) (hlk : ilk es [b0, b1, b2, b3, b4, b5, b6, b7] = some (kind, s)) (w : World) (hr : w.cell? ⟨R, 0, none⟩ = some (.map (some H))) (hRl : R < w.heap.size) (hH : w.heap[H]? = some (imO blV es)) :
  Calls Tryz.prog 89 #[.pointer (some ⟨R, 0, none⟩), .agg #[.int .u8 (b0 : Int), .int .u8 (b1 : Int), .int .u8 (b2 : Int), .int .u8 (b3 : Int), .int .u8 (b4 : Int), .int .u8 (b5 : Int), .int .u8 (b6 : Int), .int .u8 (b7 : Int)], .int .i64 kind] w fun e w' => e = .returned (.tuple #[.string s, .int .i64 0]) ∧ Below w.heap.size w w' := by
 have hb0 := (Below.refl w.heap.size w).alloc (Nat.le_refl _) (.cells #[.int .u8 (b0 : Int), .int .u8 (b1 : Int), .int .u8 (b2 : Int), .int .u8 (b3 : Int), .int .u8 (b4 : Int), .int .u8 (b5 : Int), .int .u8 (b6 : Int), .int .u8 (b7 : Int)] 30)
 have HRW := Lib.hid (heap_alloc_new w (.cells #[.int .u8 (b0 : Int), .int .u8 (b1 : Int), .int .u8 (b2 : Int), .int .u8 (b3 : Int), .int .u8 (b4 : Int), .int .u8 (b5 : Int), .int .u8 (b6 : Int), .int .u8 (b7 : Int)] 30))
 have HC0 := Lib.hid ((hb0.cell (p := ⟨R, 0, none⟩) hRl).trans hr)
 have HH := Lib.hid ((hb0.block H (lt_of_blockW hH)).trans hH)
 have HLK := Lib.hid fun u hu => rfind_look (H := H) hes hlk u hu
 have HB := Lib.hid hb0
 have HIBL : Hid (∀ a b : Value, (Tryz.prog.info? 37).map (·.size) = some (#[a, b] : Array Value).size) := Lib.hid (fun a b => by show _ = _; kernel_rfl)
 have HRL : Hid (R < (w.alloc (.cells #[.int .u8 (b0 : Int), .int .u8 (b1 : Int), .int .u8 (b2 : Int), .int .u8 (b3 : Int), .int .u8 (b4 : Int), .int .u8 (b5 : Int), .int .u8 (b6 : Int), .int .u8 (b7 : Int)] 30)).heap.size) := Lib.hid (Nat.lt_of_lt_of_le hRl hb0.size)
 clear hb0 hr hlk hes hH
 go_enter Tryz.func89, Tryz.ntmps89
 go_wp2_with fail
 generalize (w.alloc (.cells #[.int .u8 (b0 : Int), .int .u8 (b1 : Int), .int .u8 (b2 : Int), .int .u8 (b3 : Int), .int .u8 (b4 : Int), .int .u8 (b5 : Int), .int .u8 (b6 : Int), .int .u8 (b7 : Int)] 30)) = w1 at *
 refine wp_region_noPanic ?_
 refine wp_region_held_drew (S := fun u => Below w1.heap.size w1 u) (by kernel_rfl) (Below.refl _ _).drew (fun hS0 => ?_)
 have HS0 := Lib.hid hS0
 clear hS0
 generalize w1.drew = wd at *
 refine take_val 0 (.pointer (some ⟨R, 0, none⟩)) rfl (by kernel_rfl) (by kernel_rfl) (by kernel_rfl) (fun _ _ _ _ h => h) (by rfl) rfl (fun wz hS => by go_simp) HS0.out ?_
 try simp only [List.set_cons_zero, List.set_cons_succ]
 refine take_val 1 (.pointer (some ⟨R, 0, none⟩)) rfl (by kernel_rfl) (by kernel_rfl) (by kernel_rfl) (fun _ _ _ _ h => h) (by rfl) rfl (fun wz hS => by go_simp) HS0.out ?_
 try simp only [List.set_cons_zero, List.set_cons_succ]
 refine take_val 2 (.pointer (some ⟨R, 0, none⟩)) rfl (by kernel_rfl) (by kernel_rfl) (by kernel_rfl) (fun _ _ _ _ h => h) (by rfl) rfl (fun wz hS => by go_simp) HS0.out ?_
 try simp only [List.set_cons_zero, List.set_cons_succ]
 refine take_val 3 (.map (some H)) rfl (by kernel_rfl) (by kernel_rfl) (by kernel_rfl) (fun _ _ _ _ h => h) (by rfl) rfl (fun wz hS => by have c0 := (hS.cell (p := ⟨R, 0, none⟩) HRL.out).trans HC0.out; go_simp) HS0.out ?_
 try simp only [List.set_cons_zero, List.set_cons_succ]
 refine take_val 4 (.agg #[.int .u8 (b0 : Int), .int .u8 (b1 : Int), .int .u8 (b2 : Int), .int .u8 (b3 : Int), .int .u8 (b4 : Int), .int .u8 (b5 : Int), .int .u8 (b6 : Int), .int .u8 (b7 : Int)]) rfl (by kernel_rfl) (by kernel_rfl) (by kernel_rfl) (fun _ _ _ _ h => h) (by rfl) rfl (fun wz hS => by have r6 := (hS.block _ (lt_of_block HRW.out)).trans HRW.out; have d0 := cell_of_row _ _ 0 _ _ _ r6; have d1 := cell_of_row _ _ 1 _ _ _ r6; have d2 := cell_of_row _ _ 2 _ _ _ r6; have d3 := cell_of_row _ _ 3 _ _ _ r6; have d4 := cell_of_row _ _ 4 _ _ _ r6; have d5 := cell_of_row _ _ 5 _ _ _ r6; have d6 := cell_of_row _ _ 6 _ _ _ r6; have d7 := cell_of_row _ _ 7 _ _ _ r6; simp only [List.getElem?_toArray, List.getElem?_cons_zero, List.getElem?_cons_succ] at d0 d1 d2 d3 d4 d5 d6 d7; go_simp) HS0.out ?_
 try simp only [List.set_cons_zero, List.set_cons_succ]
 refine take_val 5 (.tuple #[.agg #[.int .i64 kind, .string s], .bool true]) rfl (by kernel_rfl) (by kernel_rfl) (by kernel_rfl) (fun _ _ _ _ h => h) (by rfl) rfl (fun wz hS => by have hl := HLK.out wz ((hS.block _ (lt_of_blockW HH.out)).trans HH.out); go_simp) HS0.out ?_
 try simp only [List.set_cons_zero, List.set_cons_succ]
 refine take_val 6 (.tuple #[.agg #[.int .i64 kind, .string s], .bool true]) rfl (by kernel_rfl) (by kernel_rfl) (by kernel_rfl) (fun _ _ _ _ h => h) (by rfl) rfl (fun wz hS => by go_simp) HS0.out ?_
 try simp only [List.set_cons_zero, List.set_cons_succ]
 refine take_val 7 (.agg #[.int .i64 kind, .string s]) rfl (by kernel_rfl) (by kernel_rfl) (by kernel_rfl) (fun _ _ _ _ h => h) (by rfl) rfl (fun wz hS => by go_simp) HS0.out ?_
 try simp only [List.set_cons_zero, List.set_cons_succ]
 refine take_val 8 (.bool true) rfl (by kernel_rfl) (by kernel_rfl) (by kernel_rfl) (fun _ _ _ _ h => h) (by rfl) rfl (fun wz hS => by go_simp) HS0.out ?_
 try simp only [List.set_cons_zero, List.set_cons_succ]
 refine one_ready 9 (by kernel_rfl) rfl (by rfl) (fun KQ hK => ?_)
 go_simp
 have HA1 := Lib.hid (HS0.out.trans (((Below.refl wd.heap.size wd).alloc (Nat.le_refl _) (.cells #[.int .i64 0, .string ⟨#[]⟩] 37)).mono HS0.out.size))
 have hn1 := heap_alloc_new wd (.cells #[.int .i64 0, .string ⟨#[]⟩] 37)
 refine hK.out _ _ HA1.out ?_
 clear hK KQ
 try simp only [Act.put, List.setIfInBounds_toArray, List.set_cons_zero, List.set_cons_succ]
 refine one_ready 10 (by kernel_rfl) rfl (by rfl) (fun KQ hK => ?_)
 refine wp_store_mid 37 _ _ rfl wd.heap.size 0 #[.int .i64 kind, .string s] rfl rfl (there_part hn1 (by show 0 + 2 ≤ 2; omega)) (HIBL.out _ _) (by simp [Value.oneCell']) ?_
 have HA2 : Hid (Below w1.heap.size w1 ((wd.alloc (.cells #[.int .i64 0, .string ⟨#[]⟩] 37)).setCells wd.heap.size 0 (#[.int .i64 kind, .string s] : Array Value).toList)) := Lib.hid (below_setCells HS0.out.size _ _ HA1.out)
 have hn2 : ((wd.alloc (.cells #[.int .i64 0, .string ⟨#[]⟩] 37)).setCells wd.heap.size 0 (#[.int .i64 kind, .string s] : Array Value).toList).heap[wd.heap.size]? = some (.cells #[.int .i64 kind, .string s] 37 (0, 0)) := row_full hn1 rfl
 refine hK.out _ _ HA2.out ?_
 clear hK KQ
 try simp only [Act.put, List.setIfInBounds_toArray, List.set_cons_zero, List.set_cons_succ]
 generalize ((wd.alloc (.cells #[.int .i64 0, .string ⟨#[]⟩] 37)).setCells wd.heap.size 0 (#[.int .i64 kind, .string s] : Array Value).toList) = w7 at *
 refine take_val 11 (.bool true) rfl (by kernel_rfl) (by kernel_rfl) (by kernel_rfl) (fun _ _ _ _ h => h) (by rfl) rfl (fun wz hS => by go_simp) HA2.out ?_
 try simp only [List.set_cons_zero, List.set_cons_succ]
 refine wpAnyH_done (by kernel_rfl) ?_ _
 refine NoPanic.normal ?_
 have p0 := cell_of_row _ _ 0 _ _ _ hn2
 have p1 := cell_of_row _ _ 1 _ _ _ hn2
 simp only [List.getElem?_toArray, List.getElem?_cons_zero, List.getElem?_cons_succ] at p0 p1
 have HB7 := Lib.hid (HB.out.trans (HA2.out.mono HB.out.size))
 clear hn1 HA1 HS0 HA2
 go_wp2_with fail
 go_ret2
 exact ⟨rfl, HB7.out⟩
theorem flat_take_succ {ps : List ByteArray} {i : Nat} (h : i < ps.length) : ((ps.take (i + 1)).map strN).flatten = ((ps.take i).map strN).flatten ++ strN ps[i] := by
 rw [List.take_succ_eq_append_getElem h, List.map_append, List.flatten_append, List.map_cons, List.map_nil, List.flatten_cons, List.flatten_nil, List.append_nil]
theorem flat_take_le {ps : List ByteArray} {s : ByteArray} (h : strN s = (ps.map strN).flatten) (i : Nat) : (((ps.take i).map strN).flatten).length ≤ s.size := by
 rw [← strN_length s, h]
 conv => rhs; rw [← List.take_append_drop i ps, List.map_append, List.flatten_append, List.length_append]
 omega
set_option maxRecDepth 100000 in
set_option maxHeartbeats 4000000 in
theorem rfile_any {R H : Nat} {es : List (List Nat × Bl)} (hes : ∀ e ∈ es, e.1.length = 8) (nm : ByteArray) (kd md tm : Int) (pa : Option Addr) (pc : Nat) (ids : List ID8) (lk s : ByteArray) (hf : FileT (ilk es) ids s) (hs : s.size ≤ 4096) (hn : ids.length ≤ 300) (w : World) (hp : SAt 8 idC w pa ids) (hr : w.cell? ⟨R, 0, none⟩ = some (.map (some H))) (hRl : R < w.heap.size) (hH : w.heap[H]? = some (imO blV es)) :
  Calls Tryz.prog 90 #[.pointer (some ⟨R, 0, none⟩), .agg #[.string nm, .int .i64 kd, .int .i64 md, .int .i64 tm, .int .i64 (s.size : Int), .slice pa ids.length pc, .string lk]] w fun e w' => e = .returned (.tuple #[.string s, .int .i64 0]) ∧ Below w.heap.size w w' := by
 obtain ⟨ps, hps, hss⟩ := hf
 have hlen : ids.length = ps.length := by have := congrArg List.length hps; simpa using this
 have HLK : Hid (∀ (i : Nat) (h : i < ids.length) (h' : i < ps.length), ilk es (idL ids[i]) = some (1, ps[i])) := Lib.hid fun i h h' => by
  have := List.getElem_of_eq hps (i := i) (by simpa using h)
  simpa [dB] using this
 have hb0 := (Below.refl w.heap.size w).alloc (Nat.le_refl _) (.cells #[.string nm, .int .i64 kd, .int .i64 md, .int .i64 tm, .int .i64 (s.size : Int), .slice pa ids.length pc, .string lk] 120)
 have hrow := heap_alloc_new w (.cells #[.string nm, .int .i64 kd, .int .i64 md, .int .i64 tm, .int .i64 (s.size : Int), .slice pa ids.length pc, .string lk] 120)
 have HB := Lib.hid hb0
 have HRW := Lib.hid hrow
 have HSP := Lib.hid (hp.below hb0)
 have HR0 := Lib.hid ((hb0.cell (p := ⟨R, 0, none⟩) hRl).trans hr)
 have HH := Lib.hid ((hb0.block H (lt_of_blockW hH)).trans hH)
 have HRL : Hid (R < (w.alloc (.cells #[.string nm, .int .i64 kd, .int .i64 md, .int .i64 tm, .int .i64 (s.size : Int), .slice pa ids.length pc, .string lk] 120)).heap.size) := Lib.hid (Nat.lt_of_lt_of_le hRl hb0.size)
 have HSS := Lib.hid hss
 have HES := Lib.hid hes
 have HLEN := Lib.hid hlen
 have d4 := cell_of_row _ _ 4 _ _ _ hrow
 have d5 := cell_of_row _ _ 5 _ _ _ hrow
 simp only [List.getElem?_toArray, List.getElem?_cons_zero, List.getElem?_cons_succ] at d4 d5
 clear hps hss hlen hb0 hrow hp hr hH hes hRl
 go_enter Tryz.func90, Tryz.ntmps90
 go_wp2_with fail
 generalize hw1 : (w.alloc (.cells #[.string nm, .int .i64 kd, .int .i64 md, .int .i64 tm, .int .i64 (s.size : Int), .slice pa ids.length pc, .string lk] 120)) = w1 at *
 clear hw1 d4 d5
 go_loopw [6, 14] (fun ov iv wr => ∃ (i : Nat) (o : ByteArray), i ≤ ids.length ∧ iv = .int .i64 (i : Int) ∧ ov = .string o ∧ Hid (strN o = ((ps.take i).map strN).flatten) ∧ Hid (Below w1.heap.size w1 wr)) (fun _ iv _ => ids.length - (intOf iv).toNat)
 case atStart => exact ⟨0, ⟨#[]⟩, Nat.zero_le _, rfl, rfl, Lib.hid rfl, Lib.hid (Below.refl _ _)⟩
 case round =>
  obtain ⟨i, o, hi, rfl, rfl, HO, HBR⟩ := hrel
  have HRWr := Lib.hid ((HBR.out.block _ (lt_of_block HRW.out)).trans HRW.out)
  have d4 := cell_of_row _ _ 4 _ _ _ HRWr.out
  simp only [List.getElem?_toArray, List.getElem?_cons_zero, List.getElem?_cons_succ] at d4
  have hoz : o.size ≤ s.size := by
   rw [← strN_length o, HO.out]
   exact flat_take_le HSS.out i
  by_cases hlt : i < ids.length
  ·
   have m1 : (i : Int) < (ids.length : Int) := by omega
   have hltp : i < ps.length := by rw [← HLEN.out]; exact hlt
   obtain ⟨g, off, rfl, hg, hrr⟩ := (HSP.out.below HBR.out) i hlt
   have HL := Lib.hid (HLK.out i hlt hltp)
   have HO2 : Hid (strN (o ++ ps[i]) = ((ps.take (i + 1)).map strN).flatten) := Lib.hid (by rw [strN_add, HO.out, flat_take_succ hltp])
   have hoz2 : (o ++ ps[i]).size ≤ s.size := by
    rw [← strN_length, HO2.out]
    exact flat_take_le HSS.out (i + 1)
   generalize ps[i] = p at *
   obtain ⟨t, ht⟩ : ∃ t, ids[i] = t := ⟨_, rfl⟩
   rw [ht] at hrr HL
   obtain ⟨b0, b1, b2, b3, b4, b5, b6, b7⟩ := t
   have q0 := hrr 0 _ rfl
   have q1 := hrr 1 _ rfl
   have q2 := hrr 2 _ rfl
   have q3 := hrr 3 _ rfl
   have q4 := hrr 4 _ rfl
   have q5 := hrr 5 _ rfl
   have q6 := hrr 6 _ rfl
   have q7 := hrr 7 _ rfl
   simp only [Nat.add_zero, bV] at q0 q1 q2 q3 q4 q5 q6 q7
   have hsum : o.size + p.size ≤ s.size := by rw [ByteArray.size_append] at hoz2; exact hoz2
   have hba := (Below.refl wr.heap.size wr).alloc (Nat.le_refl _) (.cells #[.int .u8 (b0 : Int), .int .u8 (b1 : Int), .int .u8 (b2 : Int), .int .u8 (b3 : Int), .int .u8 (b4 : Int), .int .u8 (b5 : Int), .int .u8 (b6 : Int), .int .u8 (b7 : Int)] 30)
   have HBA := Lib.hid (HBR.out.trans (hba.mono HBR.out.size))
   have hbx := HBA.out
   have HRWa := Lib.hid ((hbx.block _ (lt_of_block HRW.out)).trans HRW.out)
   have HF := Lib.hid (rfind_any HES.out b0 b1 b2 b3 b4 b5 b6 b7 1 p HL.out (wr.alloc (.cells #[.int .u8 (b0 : Int), .int .u8 (b1 : Int), .int .u8 (b2 : Int), .int .u8 (b3 : Int), .int .u8 (b4 : Int), .int .u8 (b5 : Int), .int .u8 (b6 : Int), .int .u8 (b7 : Int)] 30)) ((hbx.cell (p := ⟨R, 0, none⟩) HRL.out).trans HR0.out) (Nat.lt_of_lt_of_le HRL.out hbx.size) ((hbx.block _ (lt_of_blockW HH.out)).trans HH.out))
   clear hrr hg ht hba hbx hltp hoz2 d4
   go_wp2_with fail
   refine HF.out.mono ?_
   rintro e w2 ⟨rfl, hb2⟩
   have HB2 := Lib.hid (HBA.out.trans (hb2.mono HBA.out.size))
   have hrw2 := (hb2.block _ (lt_of_block HRWa.out)).trans HRWa.out
   have d4 := cell_of_row _ _ 4 _ _ _ hrw2
   simp only [List.getElem?_toArray, List.getElem?_cons_zero, List.getElem?_cons_succ] at d4
   have m3 : ¬ ((s.size : Int) < ((o ++ p).size : Int)) := by rw [ByteArray.size_append]; omega
   have m4 : ¬ (9223372036854775807 < o.size + p.size) := by omega
   have m5 : ¬ ((s.size : Int) < (o.size : Int) + (p.size : Int)) := by omega
   clear hb2 hrw2 HF
   go_wp2_with fail
   go_roundw
   case rel => exact ⟨i + 1, o ++ p, by omega, by go_num, rfl, HO2, HB2⟩
   case measure => simp [intOf]; omega
  ·
   have m1 : ¬ (i : Int) < (ids.length : Int) := by omega
   obtain rfl : o = s := by
    apply strN_inj
    have hie : i = ps.length := by rw [← HLEN.out]; omega
    rw [HO.out, HSS.out, hie, List.take_length]
   have HBE := Lib.hid (HB.out.trans (HBR.out.mono HB.out.size))
   have m2 : ¬ (o.size : Int) < (o.size : Int) := by omega
   go_wp2_with fail
   go_ret2
   exact ⟨rfl, HBE.out⟩
end Go.Proofs.YtbfoonfbhebhfaaGreatDoor
